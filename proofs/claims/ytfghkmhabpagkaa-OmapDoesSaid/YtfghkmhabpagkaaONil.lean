/- A nil map of the program's, walked. -/
import Derived.Test.YtfghkmhabpagkaaOEq
namespace Go.Proofs.Ytfghkmhabpagkaa
open Go Go.RowKit
set_option linter.unusedVariables false

set_option maxRecDepth 100000 in
theorem put_nil (k v : Int) (w : World) : Calls Try.prog 29 #[.pointer none, .int .u64 k, .int .u64 v] w fun e w' => e = .returned (.tuple #[.int .u64 0, .bool false, .int .i64 1]) ∧ Below w.heap.size w w' := by
  have hb : Below w.heap.size w w := Below.refl _ _
  go_enter Try.func29, Try.ntmps29
  go_wp2_with fail
  go_ret3
  exact ⟨rfl, hb⟩
set_option maxRecDepth 100000 in
theorem find_nil (k : Int) (w : World) : Calls Try.prog 38 #[.pointer none, .int .u64 k] w fun e w' => e = .returned (.tuple #[.int .i64 0, .bool false]) ∧ Below w.heap.size w w' := by
  have hb : Hid (∀ X Y, Below w.heap.size w ((w.alloc X).alloc Y)) := fun X Y => ((Below.refl _ w).alloc (Nat.le_refl _) X).alloc (by simp) Y
  go_enter Try.func38, Try.ntmps38
  go_wp2_with fail
  go_ret2
  exact ⟨rfl, hb.out _ _⟩
set_option maxRecDepth 100000 in
theorem get_nil (k : Int) (w : World) : Calls Try.prog 17 #[.pointer none, .int .u64 k] w fun e w' => e = .returned (.tuple #[.int .u64 0, .bool false]) ∧ Below w.heap.size w w' := by
  go_enter Try.func17, Try.ntmps17
  go_wp2_with fail
  refine (find_nil k w).mono ?_
  rintro e w1 ⟨rfl, hb⟩
  have hb1 := Lib.hid hb
  clear hb
  go_wp2_with fail
  go_ret2
  exact ⟨rfl, hb1.out⟩
set_option maxRecDepth 100000 in
theorem len_nil (w : World) : Calls Try.prog 18 #[.pointer none] w fun e w' => e = .returned (.int .i64 0) ∧ Below w.heap.size w w' := by
  have hb : Below w.heap.size w w := Below.refl _ _
  go_enter Try.func18, Try.ntmps18
  go_wp2_with fail
  go_ret
  exact ⟨rfl, hb⟩
set_option maxRecDepth 100000 in
theorem pairs_nil (w : World) : Calls Try.prog 13 #[.pointer none] w fun e w' => e = .returned (.slice none 0 0) ∧ Below w.heap.size w w' := by
  have hb : Below w.heap.size w w := Below.refl _ _
  go_enter Try.func13, Try.ntmps13
  go_wp2_with fail
  go_ret
  exact ⟨rfl, hb⟩
set_option maxRecDepth 100000 in
theorem copy_nil (w : World) : Calls Try.prog 25 #[.pointer none] w fun e w' => e = .returned (.pointer none) ∧ Below w.heap.size w w' := by
  have hb : Below w.heap.size w w := Below.refl _ _
  go_enter Try.func25, Try.ntmps25
  go_wp2_with fail
  go_ret
  exact ⟨rfl, hb⟩
set_option maxRecDepth 100000 in
theorem eq_nil (w : World) : Calls Try.prog 28 #[.pointer none, .pointer none] w fun e w' => e = .returned (.bool true) ∧ Below w.heap.size w w' := by
  have hb : Below w.heap.size w w := Below.refl _ _
  go_enter Try.func28, Try.ntmps28
  go_wp2_with fail
  go_ret
  exact ⟨rfl, hb⟩
set_option maxRecDepth 100000 in
theorem eq_nil1 (g : Nat) (w : World) : Calls Try.prog 28 #[.pointer none, .pointer (some ⟨g, 0, none⟩)] w fun e w' => e = .returned (.bool false) ∧ Below w.heap.size w w' := by
  have hb : Below w.heap.size w w := Below.refl _ _
  have heq : ∀ w, (Op.equalIn 10000 28 (.pointer none) (.pointer (some ⟨g, 0, none⟩))).run Try.prog w = .ok false w := fun w => by rfl
  have heq2 : ∀ w, (Op.equal 28 (.pointer none) (.pointer (some ⟨g, 0, none⟩))).run Try.prog w = .ok false w := fun w => by rfl
  have heq3 : ∀ w, (binOp BinOp.eql 28 (.pointer none) (.pointer (some ⟨g, 0, none⟩))).run Try.prog w = .ok (.bool false) w := fun w => by rfl
  go_enter Try.func28, Try.ntmps28
  go_wp2_with fail
  go_ret
  exact ⟨rfl, hb⟩
set_option maxRecDepth 100000 in
theorem eq_nil2 (g : Nat) (w : World) : Calls Try.prog 28 #[.pointer (some ⟨g, 0, none⟩), .pointer none] w fun e w' => e = .returned (.bool false) ∧ Below w.heap.size w w' := by
  have hb : Below w.heap.size w w := Below.refl _ _
  have heq : ∀ w, (Op.equalIn 10000 28 (.pointer (some ⟨g, 0, none⟩)) (.pointer none)).run Try.prog w = .ok false w := fun w => by rfl
  have heq2 : ∀ w, (Op.equal 28 (.pointer (some ⟨g, 0, none⟩)) (.pointer none)).run Try.prog w = .ok false w := fun w => by rfl
  have heq3 : ∀ w, (binOp BinOp.eql 28 (.pointer (some ⟨g, 0, none⟩)) (.pointer none)).run Try.prog w = .ok (.bool false) w := fun w => by rfl
  go_enter Try.func28, Try.ntmps28
  go_wp2_with fail
  go_ret
  exact ⟨rfl, hb⟩
set_option maxRecDepth 100000 in
theorem ends_nil (lo hi : Int) (w : World) : Calls Try.prog 35 #[.pointer none, .agg #[.int .u64 lo, .int .u64 hi]] w fun e w' => e = .returned (.tuple #[.int .i64 0, .int .i64 0, .int .i64 1]) ∧ Below w.heap.size w w' := by
  have hb : Hid (∀ X, Below w.heap.size w (w.alloc X)) := fun X => (Below.refl _ w).alloc (Nat.le_refl _) X
  go_enter Try.func35, Try.ntmps35
  go_wp2_with fail
  go_ret3
  exact ⟨rfl, hb.out _⟩
set_option maxRecDepth 100000 in
theorem move_nil (lo hi by_ : Int) (w : World) : Calls Try.prog 14 #[.pointer none, .agg #[.int .u64 lo, .int .u64 hi], .int .u64 by_] w fun e w' => e = .returned (.tuple #[.int .i64 0, .int .i64 1]) ∧ Below w.heap.size w w' := by
  have hb0 : Hid (Below w.heap.size w (w.alloc (.cells #[.int .u64 lo, .int .u64 hi] 25))) := (Below.refl _ _).alloc (Nat.le_refl _) _
  have hc := ends_nil lo hi (w.alloc (.cells #[.int .u64 lo, .int .u64 hi] 25))
  go_enter Try.func14, Try.ntmps14
  go_wp2_with fail
  refine hc.mono ?_
  rintro e w1 ⟨rfl, hb⟩
  have hb1 := below_on hb0 hb
  clear hc hb hb0
  go_wp2_with fail
  go_ret2
  exact ⟨rfl, hb1.out⟩
set_option maxRecDepth 100000 in
theorem range_nil (lo hi : Int) (w : World) : Calls Try.prog 19 #[.pointer none, .agg #[.int .u64 lo, .int .u64 hi]] w fun e w' => e = .returned (.tuple #[.slice none 0 0, .int .i64 1]) ∧ Below w.heap.size w w' := by
  have hb0 : Hid (Below w.heap.size w (w.alloc (.cells #[.int .u64 lo, .int .u64 hi] 25))) := (Below.refl _ _).alloc (Nat.le_refl _) _
  have hc := ends_nil lo hi (w.alloc (.cells #[.int .u64 lo, .int .u64 hi] 25))
  go_enter Try.func19, Try.ntmps19
  go_wp2_with fail
  refine hc.mono ?_
  rintro e w1 ⟨rfl, hb⟩
  have hb1 := below_on hb0 hb
  clear hc hb hb0
  go_wp2_with fail
  go_ret2
  exact ⟨rfl, hb1.out⟩
end Go.Proofs.Ytfghkmhabpagkaa
