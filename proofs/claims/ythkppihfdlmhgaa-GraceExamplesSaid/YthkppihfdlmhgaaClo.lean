/- The closures of event.Sections and event.Waits, walked (printed by gen_pairs.py). -/
import Derived.Test.YthkppihfdlmhgaaSecW
import Derived.Test.YthkppihfdlmhgaaCheck
namespace Go.Proofs.Ythkppihfdlmhgaa
open Go Go.RowKit
set_option linter.unusedVariables false

set_option maxHeartbeats 1000000 in
theorem sections1_any (e : Ev) (w : World) : Calls Try.prog 34 #[evV e] w (fun en w' => en = .returned (seV ⟨e.thread, e.val, e.step, -1⟩) ∧ Below w.heap.size w w') := by
  have hE := Blk.new w 37 #[.int .i64 e.step, .int .i64 e.thread, .int .u8 e.kind, .int .u64 e.val]
  have hb1 := (Below.refl _ w).alloc (Nat.le_refl _) (.cells #[.int .i64 e.step, .int .i64 e.thread, .int .u8 e.kind, .int .u64 e.val] 37)
  have e0 := hE.cell 0
  have e1 := hE.cell 1
  have e2 := hE.cell 2
  have e3 := hE.cell 3
  simp at e0 e1 e2 e3
  unfold evV seV
  go_enter Try.func34, Try.ntmps34
  go_wp2_with fail
  refine bodyPost_ret (results_cell_row rfl _ _ (w.heap.size + 1) 43 _ (0, 0) _ rfl (heap_alloc2_new w _ _) Try.underlying43 rfl (by kernel_rfl)) rfl ?_
  exact ⟨rfl, hb1.alloc (by simp) _⟩

set_option maxHeartbeats 1000000 in
theorem sections2_any (g o : Nat) (st u : Int) (w : World) (h3 : w.cell? ⟨g, o + 3, none⟩ = some (.int .i64 u)) (hf : w.frozen? ⟨g, o + 3, none⟩ = false) :
    Calls Try.prog 35 #[.pointer (some ⟨g, o, none⟩), .int .i64 st] w (fun en w' => en = .returned (.tuple #[]) ∧ w' = w.setCell ⟨g, o + 3, none⟩ (.int .i64 st)) := by
  go_enter Try.func35, Try.ntmps35
  go_wp2_with fail
  go_end0
  exact ⟨rfl, rfl⟩

set_option maxHeartbeats 1000000 in
theorem waits1_any (e : Ev) (w : World) : Calls Try.prog 52 #[evV e] w (fun en w' => en = .returned (seV ⟨e.thread, e.val, e.step, -1⟩) ∧ Below w.heap.size w w') := by
  have hE := Blk.new w 37 #[.int .i64 e.step, .int .i64 e.thread, .int .u8 e.kind, .int .u64 e.val]
  have hb1 := (Below.refl _ w).alloc (Nat.le_refl _) (.cells #[.int .i64 e.step, .int .i64 e.thread, .int .u8 e.kind, .int .u64 e.val] 37)
  have e0 := hE.cell 0
  have e1 := hE.cell 1
  have e2 := hE.cell 2
  have e3 := hE.cell 3
  simp at e0 e1 e2 e3
  unfold evV seV
  go_enter Try.func52, Try.ntmps52
  go_wp2_with fail
  refine bodyPost_ret (results_cell_row rfl _ _ (w.heap.size + 1) 74 _ (0, 0) _ rfl (heap_alloc2_new w _ _) Try.underlying74 rfl (by kernel_rfl)) rfl ?_
  exact ⟨rfl, hb1.alloc (by simp) _⟩

set_option maxHeartbeats 1000000 in
theorem waits2_any (g o : Nat) (st u : Int) (w : World) (h3 : w.cell? ⟨g, o + 3, none⟩ = some (.int .i64 u)) (hf : w.frozen? ⟨g, o + 3, none⟩ = false) :
    Calls Try.prog 53 #[.pointer (some ⟨g, o, none⟩), .int .i64 st] w (fun en w' => en = .returned (.tuple #[]) ∧ w' = w.setCell ⟨g, o + 3, none⟩ (.int .i64 st)) := by
  go_enter Try.func53, Try.ntmps53
  go_wp2_with fail
  go_end0
  exact ⟨rfl, rfl⟩
end Go.Proofs.Ythkppihfdlmhgaa
