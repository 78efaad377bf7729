/- The law DrawBits, walked. -/
import Derived.Test.YtmokfjlkfhopnaaDoorLawNums
import Derived.Test.YtmokfjlkfhopnaaDoorTally
namespace Go.Proofs.YtmokfjlkfhopnaaDoor
open Go Go.RowKit Go.ChangeShapes
set_option linter.unusedVariables false
set_option maxHeartbeats 3000000 in
theorem bits_law (a0 a1 : Int) (w : World) (hT : Hid (Tab w)) (w0 : (Lit.int .u64 a0).wf = true) (w1 : (Lit.int .u64 a1).wf = true) :
    Calls Tryd.prog 3 #[.int .u64 a0, .int .u64 a1] w fun e w' => e = .returned (.bool true) ∧ Below w.heap.size w w' := by
  obtain ⟨x, rfl, hx⟩ := u64_of_wf w0
  obtain ⟨y, rfl, hy⟩ := u64_of_wf w1
  clear w0 w1
  have hb := hgt_bd x
  obtain ⟨h, hh⟩ : ∃ h, h = hgt x := ⟨_, rfl⟩
  have H := Lib.hid hh
  rw [← hh] at hb
  clear hh
  obtain ⟨hb1, hb2⟩ := hb
  go_enter Tryd.func3, Tryd.ntmps3
  go_wp2_with fail
  refine (height_any x hx _ hT).mono ?_
  rintro e w' ⟨rfl, rfl⟩
  rw [← H.out]
  go_wp2_with fail
  obtain ⟨z, hz1, hz2, hz3⟩ := or_form x y hx.out
  rw [hz1]
  have hz2' := Lib.hid hz2
  have Hz : Hid (hgt z = h) := by unfold Hid; rw [H.out]; exact hgt_congr hz3
  clear hz1 hz2 hz3
  refine (height_any z hz2' _ hT).mono ?_
  rintro e w' ⟨rfl, rfl⟩
  rw [Hz.out]
  obtain ⟨k, rfl⟩ : ∃ k, h = k + 1 := ⟨h - 1, by omega⟩
  have L := low_form x hx.out k (by omega) H.out
  have hk : k = 0 ∨ k = 1 ∨ k = 2 ∨ k = 3 ∨ k = 4 ∨ k = 5 := by omega
  rcases hk with rfl | rfl | rfl | rfl | rfl | rfl
  all_goals
    have L1 := L.1
    have L2 := L.2
    clear L
    simp at L1 L2
    go_wp2_with fail
  all_goals clear L1 L2 H Hz hb1 hb2 hz2' hx
  all_goals
    go_loopw [8] (fun i wr => ∃ k : Nat, k ≤ 32 ∧ i = .int .u64 k ∧ Hid (Blk wr w.heap.size 25 (talV (hs y k))) ∧ Hid (Below w.heap.size w wr)) (fun i _ => 32 - (intOf i).toNat)
    case atStart => exact ⟨0, by omega, rfl, Blk.new w _ _, (Below.refl _ _).alloc (Nat.le_refl _) _⟩
    case round =>
      obtain ⟨k, hk, rfl, hB, hbel⟩ := hrel
      by_cases hlt : k < 32
      · have hT' : Hid (Tab wr) := tab_below hT hbel.out (tab_lt hT)
        go_wp2_with fail
        rw [wrap_add]
        refine (height_any ((y + k) % 18446744073709551616) (Nat.mod_lt _ (by decide) : _ < 18446744073709551616) _ hT').mono ?_
        obtain ⟨h1, h2⟩ := hgt_bd ((y + k) % 18446744073709551616)
        have hsn := hs_succ y k
        generalize hgt ((y + k) % 18446744073709551616) = h at *
        obtain ⟨j, rfl⟩ : ∃ j, h = j + 1 := ⟨h - 1, by omega⟩
        have hB' : Hid (Blk (wr.setCell ⟨w.heap.size, j, none⟩ (.int .i64 ((tal (hs y k) j : Int) + 1))) w.heap.size 25 (talV (hs y (k + 1)))) := by
          have := hB.out.set_ j (.int .i64 ((tal (hs y k) j : Int) + 1))
          rw [talV_set _ _ (by omega)] at this
          unfold Hid
          rw [hsn]
          exact this
        have hc : wr.cell? ⟨w.heap.size, j, none⟩ = some (.int .i64 (tal (hs y k) j)) := by rw [hB.out.cell, talV_get _ _ (by omega)]
        have hf : wr.frozen? ⟨w.heap.size, j, none⟩ = false := hB.out.frozen j
        have hle : tal (hs y k) j ≤ 32 := by have := tal_le (hs y k) j; rw [hs_len] at this; omega
        have hbel' : Hid (Below w.heap.size w (wr.setCell ⟨w.heap.size, j, none⟩ (.int .i64 ((tal (hs y k) j : Int) + 1)))) := hbel.out.setCell (Nat.le_refl _) _
        clear hsn
        rintro e w' ⟨rfl, rfl⟩
        go_wp2_with fail
        go_roundw
        case rel => exact ⟨k + 1, by omega, by go_num, hB', hbel'⟩
        case measure => simp [intOf]; omega
      · obtain rfl : k = 32 := by omega
        have hB2 : Blk wr w.heap.size 25 (talV (hs y 32)) := hB.out
        rw [talV_hs] at hB2
        have c0 : wr.cell? ⟨w.heap.size, 0, none⟩ = some (.int .i64 16) := hB2.cell 0
        have c1 : wr.cell? ⟨w.heap.size, 1, none⟩ = some (.int .i64 8) := hB2.cell 1
        have c2 : wr.cell? ⟨w.heap.size, 2, none⟩ = some (.int .i64 4) := hB2.cell 2
        have c3 : wr.cell? ⟨w.heap.size, 3, none⟩ = some (.int .i64 2) := hB2.cell 3
        have c4 : wr.cell? ⟨w.heap.size, 4, none⟩ = some (.int .i64 1) := hB2.cell 4
        have c5 : wr.cell? ⟨w.heap.size, 5, none⟩ = some (.int .i64 1) := hB2.cell 5
        clear hB2
        have heq : ∀ w, (Op.equalIn 10000 25 (.agg #[.int .i64 16, .int .i64 8, .int .i64 4, .int .i64 2, .int .i64 1, .int .i64 1]) (.agg #[.int .i64 16, .int .i64 8, .int .i64 4, .int .i64 2, .int .i64 1, .int .i64 1])).run Tryd.prog w = .ok true w := fun _ => by kernel_rfl
        go_wp2
        go_ret
        exact ⟨rfl, hbel.out⟩
end Go.Proofs.YtmokfjlkfhopnaaDoor
