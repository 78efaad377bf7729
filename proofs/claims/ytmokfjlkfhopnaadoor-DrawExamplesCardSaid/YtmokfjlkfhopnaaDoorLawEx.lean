/- The law DrawExamples, walked. -/
import Derived.Test.YtmokfjlkfhopnaaDoorKnown
namespace Go.Proofs.YtmokfjlkfhopnaaDoor
open Go Go.RowKit Go.ChangeShapes
set_option linter.unusedVariables false

theorem hl03 : hl 0 3 = [5, 1, 5] := by decide +kernel

set_option maxHeartbeats 600000 in
set_option maxRecDepth 100000 in
theorem examples_law (w : World) (hT : Hid (Tab w)) : Calls Tryd.prog 8 #[] w fun e w' => e = .returned (.bool true) ∧ Below w.heap.size w w' := by
  have heq := eq6_same
  have HQ := Lib.hid heq
  clear heq
  go_enter Tryd.func8, Tryd.ntmps8
  go_wp2_with fail
  refine (height_at 0 _ 1 rfl (by decide) (by decide) _ hT).mono ?_
  rintro e w' ⟨rfl, rfl⟩
  go_wp2_with fail
  refine (height_at 1 _ 2 rfl (by decide) (by decide) _ hT).mono ?_
  rintro e w' ⟨rfl, rfl⟩
  go_wp2_with fail
  refine (height_at 5 _ 2 rfl (by decide) (by decide) _ hT).mono ?_
  rintro e w' ⟨rfl, rfl⟩
  go_wp2_with fail
  refine (height_at 31 _ 6 rfl (by decide) (by decide) _ hT).mono ?_
  rintro e w' ⟨rfl, rfl⟩
  go_wp2_with fail
  refine (height_at 63 _ 6 rfl (by decide) (by decide) _ hT).mono ?_
  rintro e w' ⟨rfl, rfl⟩
  go_wp2_with fail
  refine (height_at 18446744073709551615 _ 6 rfl (by decide) (by decide +kernel) _ hT).mono ?_
  rintro e w' ⟨rfl, rfl⟩
  go_wp2_with fail
  refine (mix_at 0 0 _ _ 16294208416658607535 rfl rfl (by decide) (by rw [mix_zero.1]; rfl) _).mono ?_
  rintro e w' ⟨rfl, rfl⟩
  go_wp2_with fail
  refine (mix_at 0 1 _ _ 7960286522194355700 rfl rfl (by decide) (by rw [mix_zero.2.1]; rfl) _).mono ?_
  rintro e w' ⟨rfl, rfl⟩
  go_wp2_with fail
  refine (mix_at 0 2 _ _ 487617019471545679 rfl rfl (by decide) (by rw [mix_zero.2.2]; rfl) _).mono ?_
  rintro e w' ⟨rfl, rfl⟩
  go_wp2_with fail
  refine (heights_ok 0 3 (by decide : (0 : Nat) < 18446744073709551616) _ (by omega) hT).mono ?_
  rintro e w1 ⟨A, c, rfl, hown, hb⟩
  rw [hl03] at hown
  have hr1 := Lib.hid (Reads.of_own hown)
  have hb1 := Lib.hid hb
  clear hb hown
  go_wp2_with fail
  refine (heights_neg 0 (-1) _ (by omega)).mono ?_
  rintro e w' ⟨rfl, rfl⟩
  go_wp2_with fail
  refine (heights_big 0 1025 _ (by omega)).mono ?_
  rintro e w' ⟨rfl, rfl⟩
  go_wp2_with fail
  refine (same_eq [5, 1, 5] A _ 3 3 c 3 _ (((hr1.out.alloc (Nat.le_refl _) _).more (by simp))) (reads_lit w1 3 (ints [5, 1, 5]) 3 rfl) (by omega)).mono ?_
  rintro e w2 ⟨rfl, hb⟩
  have hb2 : Hid (Below w.heap.size w w2) := (hb1.out.alloc hb1.out.size _).trans (hb.mono (by have := hb1.out.size; simp; omega))
  clear hb hr1
  go_wp2_with fail
  refine (tally_ok [1, 1, 3] 2 0 1 0 0 0 rfl rfl _ 3 3 _ (reads_lit w2 3 (ints [1, 1, 3]) 3 rfl) (by omega)).mono ?_
  rintro e w3 ⟨rfl, hb⟩
  have hb3 : Hid (Below w.heap.size w w3) := (hb2.out.alloc hb2.out.size _).trans (hb.mono (by have := hb2.out.size; simp; omega))
  clear hb
  go_wp2_with fail
  refine (tally_no [0] rfl _ 1 1 _ (reads_at (w3.alloc (.cells #[.int .i64 2, .int .i64 0, .int .i64 1, .int .i64 0, .int .i64 0, .int .i64 0] 25)) 3 (ints [0]) 1 _ (by simp) rfl) (by omega)).mono ?_
  rintro e w5 ⟨rfl, hb⟩
  have hb5 : Hid (Below (w3.heap.size + 1) (w3.alloc (.cells (talV [1, 1, 3]) 25)) w5) := ((Below.refl _ _).alloc (by simp) _).trans (hb.mono (by simp))
  clear hb
  go_wp2_with fail
  refine (tally_no [7] rfl _ 1 1 _ (reads_lit w5 3 (ints [7]) 1 rfl) (by omega)).mono ?_
  rintro e w6 ⟨rfl, hb⟩
  have hb6 : Hid (Below (w3.heap.size + 1) (w3.alloc (.cells (talV [1, 1, 3]) 25)) w6) := (hb5.out.alloc (by have := hb5.out.size; simp at this; omega) _).trans (hb.mono (by have := hb5.out.size; simp at this; simp; omega))
  clear hb
  go_wp2_with fail
  refine (tally_ok [] 0 0 0 0 0 0 rfl rfl _ 0 0 _ Reads.none_ (by omega)).mono ?_
  rintro e w7 ⟨rfl, hb⟩
  have hb7 : Hid (Below (w3.heap.size + 1) (w3.alloc (.cells (talV [1, 1, 3]) 25)) w7) := hb6.out.trans (hb.mono (by have := hb6.out.size; simp at this; omega))
  have hB := (Blk.new w3 25 (talV [1, 1, 3])).below hb7.out (by omega)
  have hs7 : w3.heap.size < w7.heap.size := by have := hb7.out.size; simp at this; omega
  have c0 := hB.cell 0
  have c1 := hB.cell 1
  have c2 := hB.cell 2
  have c3 := hB.cell 3
  have c4 := hB.cell 4
  have c5 := hB.cell 5
  simp [talV, tal] at c0 c1 c2 c3 c4 c5
  clear hb hB
  have q1 := fun w => eq6_same 2 0 1 0 0 0 w
  have q2 := fun w => eq6_same 0 0 0 0 0 0 w
  go_wp2_with fail
  go_ret
  have h7 := (hb3.out.alloc hb3.out.size (.cells (talV [1, 1, 3]) 25)).trans (hb7.out.mono (by have := hb3.out.size; omega))
  exact ⟨rfl, h7.alloc h7.size _⟩
end Go.Proofs.YtmokfjlkfhopnaaDoor
