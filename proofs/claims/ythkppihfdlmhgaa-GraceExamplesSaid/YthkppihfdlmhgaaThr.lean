/- The four rules of a thread (enter, exit, wait, done), walked (printed by gen_thr.py). -/
import Derived.Test.YthkppihfdlmhgaaEv
import Derived.BigRegion
namespace Go.Proofs.Ythkppihfdlmhgaa
open Go Go.RowKit
set_option linter.unusedVariables false

/-- What a rule leaves: the thread's two cells. -/
def RuleEnd (ok : Bool) (g o : Nat) (cs : Array Value) (i v : Int) (w : World) (e : Ending) (w' : World) : Prop :=
  e = .returned (.bool ok) ∧ Blk w' g 79 ((cs.setIfInBounds o (.int .u8 i)).setIfInBounds (o + 1) (.int .u64 v)) ∧ w.grownBy w' (some g)
theorem set_same {cs : Array Value} {j : Nat} {v : Value} (h : cs[j]? = some v) : cs.setIfInBounds j v = cs := by
  apply Array.ext_getElem?
  intro i
  rw [Array.getElem?_setIfInBounds]
  split
  · rename_i he
    subst he
    split
    · exact h.symm
    · rename_i hlt
      rw [Array.getElem?_eq_none (by omega)] at h
      cases h
  · rfl
theorem rule2 {g o : Nat} {cs : Array Value} {i v : Int} {w : World} (hB : Blk w g 79 cs) (ob : Obj) :
    Blk ((((w.setCell ⟨g, o, none⟩ (.int .u8 i)).setCell ⟨g, o + 1, none⟩ (.int .u64 v)).alloc ob).drew) g 79 ((cs.setIfInBounds o (.int .u8 i)).setIfInBounds (o + 1) (.int .u64 v)) ∧ w.grownBy ((((w.setCell ⟨g, o, none⟩ (.int .u8 i)).setCell ⟨g, o + 1, none⟩ (.int .u64 v)).alloc ob).drew) (some g) := by
  refine ⟨(((hB.set_ o _).set_ (o + 1) _).alloc _).drew, rfl, rfl, rfl, ?_, fun k hk hne => ?_⟩
  · show w.heap.size ≤ (((w.setCell ⟨g, o, none⟩ (.int .u8 i)).setCell ⟨g, o + 1, none⟩ (.int .u64 v)).alloc ob).heap.size
    simp
  · have hkg : k ≠ g := fun h => hne (by rw [h])
    exact (Below.heap_alloc _ ob k (by simpa using hk)).trans ((Below.heap_setCell _ ⟨g, o + 1, none⟩ _ k hkg).trans (Below.heap_setCell w ⟨g, o, none⟩ _ k hkg))
theorem rule1 {g o : Nat} {cs : Array Value} {i v : Int} {w : World} (hB : Blk w g 79 cs) (h1 : cs[o + 1]? = some (.int .u64 v)) (ob : Obj) (q : Nat) :
    Blk (((w.alloc ob).drewN q).setCell ⟨g, o, none⟩ (.int .u8 i)) g 79 ((cs.setIfInBounds o (.int .u8 i)).setIfInBounds (o + 1) (.int .u64 v)) ∧ w.grownBy (((w.alloc ob).drewN q).setCell ⟨g, o, none⟩ (.int .u8 i)) (some g) := by
  refine ⟨?_, rfl, rfl, rfl, ?_, fun k hk hne => ?_⟩
  · rw [set_same (by rw [Array.getElem?_setIfInBounds, if_neg (by omega)]; exact h1)]
    exact ((hB.alloc ob).drewN q).set_ o _
  · show w.heap.size ≤ ((w.alloc ob).setCell ⟨g, o, none⟩ (.int .u8 i)).heap.size
    simp
  · have hkg : k ≠ g := fun h => hne (by rw [h])
    exact (Below.heap_setCell ((w.alloc ob).drewN q) ⟨g, o, none⟩ _ k hkg).trans (Below.heap_alloc w ob k hk)

set_option maxHeartbeats 1000000 in
theorem enter_any (e : Ev) (g o : Nat) (cs : Array Value) (i v : Int) (w : World) (hB : Blk w g 79 cs) (h0 : cs[o]? = some (.int .u8 i)) (h1 : cs[o + 1]? = some (.int .u64 v)) :
    Calls Try.prog 46 #[.pointer (some ⟨g, o, none⟩), evV e] w (RuleEnd (decide (i = 0) && decide (e.val < 64)) g o cs 1 e.val w) := by
  have hend := rule2 (o := o) (i := 1) (v := e.val) hB (.cells #[.int .i64 e.step, .int .i64 e.thread, .int .u8 e.kind, .int .u64 e.val] 37)
  have hgl := hB.lt
  have hgn : w.heap.size ≠ g := by omega
  have hB1 := hB.alloc (.cells #[.int .i64 e.step, .int .i64 e.thread, .int .u8 e.kind, .int .u64 e.val] 37)
  have hE := Blk.new w 37 #[.int .i64 e.step, .int .i64 e.thread, .int .u8 e.kind, .int .u64 e.val]
  have c0 := (hB1.cell o).trans h0
  have c1 := (hB1.cell (o + 1)).trans h1
  have e3 := hE.cell 3
  have c0' := (hB.cell o).trans h0
  have c1' := (hB.cell (o + 1)).trans h1
  have f0' := hB.frozen o
  have f1' := hB.frozen (o + 1)
  have f0 := hB1.frozen o
  have f1 := hB1.frozen (o + 1)
  simp at e3
  unfold evV
  by_cases hi : i = 0
  · subst hi
    by_cases hc : e.val < 64
    · rw [decide_eq_true hc]
      go_enter Try.func46, Try.ntmps46
      go_wp2_with fail
      go_region
      go_wp2_with fail
      go_ret
      exact ⟨by simp <;> omega, hend⟩
    · rw [decide_eq_false hc]
      go_enter Try.func46, Try.ntmps46
      go_wp2_with fail
      go_region
      go_wp2_with fail
      go_ret
      exact ⟨by simp <;> omega, hend⟩
  · rw [decide_eq_false hi]
    have hd : (i == 0) = false := by simpa using hi
    go_enter Try.func46, Try.ntmps46
    go_wp2_with fail
    go_region
    go_wp2_with fail
    go_ret
    exact ⟨by simp <;> omega, hend⟩

set_option maxHeartbeats 1000000 in
theorem wait_any (e : Ev) (g o : Nat) (cs : Array Value) (i v : Int) (w : World) (hB : Blk w g 79 cs) (h0 : cs[o]? = some (.int .u8 i)) (h1 : cs[o + 1]? = some (.int .u64 v)) :
    Calls Try.prog 48 #[.pointer (some ⟨g, o, none⟩), evV e] w (RuleEnd (decide (i = 0) && decide (e.val ≠ 0)) g o cs 3 e.val w) := by
  have hend := rule2 (o := o) (i := 3) (v := e.val) hB (.cells #[.int .i64 e.step, .int .i64 e.thread, .int .u8 e.kind, .int .u64 e.val] 37)
  have hgl := hB.lt
  have hgn : w.heap.size ≠ g := by omega
  have hB1 := hB.alloc (.cells #[.int .i64 e.step, .int .i64 e.thread, .int .u8 e.kind, .int .u64 e.val] 37)
  have hE := Blk.new w 37 #[.int .i64 e.step, .int .i64 e.thread, .int .u8 e.kind, .int .u64 e.val]
  have c0 := (hB1.cell o).trans h0
  have c1 := (hB1.cell (o + 1)).trans h1
  have e3 := hE.cell 3
  have c0' := (hB.cell o).trans h0
  have c1' := (hB.cell (o + 1)).trans h1
  have f0' := hB.frozen o
  have f1' := hB.frozen (o + 1)
  have f0 := hB1.frozen o
  have f1 := hB1.frozen (o + 1)
  simp at e3
  unfold evV
  by_cases hi : i = 0
  · subst hi
    by_cases hc : e.val ≠ 0
    · rw [decide_eq_true hc]
      go_enter Try.func48, Try.ntmps48
      go_wp2_with fail
      go_region
      go_wp2_with fail
      go_ret
      exact ⟨by simp <;> omega, hend⟩
    · rw [decide_eq_false hc]
      go_enter Try.func48, Try.ntmps48
      go_wp2_with fail
      go_region
      go_wp2_with fail
      go_ret
      exact ⟨by simp <;> omega, hend⟩
  · rw [decide_eq_false hi]
    have hd : (i == 0) = false := by simpa using hi
    go_enter Try.func48, Try.ntmps48
    go_wp2_with fail
    go_region
    go_wp2_with fail
    go_ret
    exact ⟨by simp <;> omega, hend⟩

set_option maxHeartbeats 1000000 in
theorem exit_any (e : Ev) (g o : Nat) (cs : Array Value) (i v : Int) (w : World) (hB : Blk w g 79 cs) (h0 : cs[o]? = some (.int .u8 i)) (h1 : cs[o + 1]? = some (.int .u64 v)) :
    Calls Try.prog 47 #[.pointer (some ⟨g, o, none⟩), evV e] w (RuleEnd (decide (i = 1) && decide (v = e.val)) g o cs 0 v w) := by
  have hend := rule1 (o := o) (i := 0) hB h1 (.cells #[.int .i64 e.step, .int .i64 e.thread, .int .u8 e.kind, .int .u64 e.val] 37)
  have hgl := hB.lt
  have hgn : w.heap.size ≠ g := by omega
  have hB1 := hB.alloc (.cells #[.int .i64 e.step, .int .i64 e.thread, .int .u8 e.kind, .int .u64 e.val] 37)
  have hE := Blk.new w 37 #[.int .i64 e.step, .int .i64 e.thread, .int .u8 e.kind, .int .u64 e.val]
  have c0 := (hB1.cell o).trans h0
  have c1 := (hB1.cell (o + 1)).trans h1
  have e3 := hE.cell 3
  have c0' := (hB.cell o).trans h0
  have c1' := (hB.cell (o + 1)).trans h1
  have f0' := hB.frozen o
  have f1' := hB.frozen (o + 1)
  have f0 := hB1.frozen o
  have f1 := hB1.frozen (o + 1)
  simp at e3
  unfold evV
  by_cases hi : i = 1
  · subst hi
    by_cases hc : v = e.val
    · rw [decide_eq_true hc]
      have hd : (v == e.val) = true := by simpa using hc
      go_enter Try.func47, Try.ntmps47
      go_wp2_with fail
      go_quiet (fail)
      go_wp2_with fail
      go_ret
      exact ⟨by simp, hend _⟩
    · rw [decide_eq_false hc]
      have hd : (v == e.val) = false := by simpa using hc
      go_enter Try.func47, Try.ntmps47
      go_wp2_with fail
      go_quiet (fail)
      go_wp2_with fail
      go_ret
      exact ⟨by simp, hend _⟩
  · rw [decide_eq_false hi]
    have hd : (i == 1) = false := by simpa using hi
    go_enter Try.func47, Try.ntmps47
    go_wp2_with fail
    go_quiet (fail)
    go_wp2_with fail
    go_ret
    exact ⟨by simp, hend _⟩

set_option maxHeartbeats 1000000 in
theorem done_any (e : Ev) (g o : Nat) (cs : Array Value) (i v : Int) (w : World) (hB : Blk w g 79 cs) (h0 : cs[o]? = some (.int .u8 i)) (h1 : cs[o + 1]? = some (.int .u64 v)) :
    Calls Try.prog 49 #[.pointer (some ⟨g, o, none⟩), evV e] w (RuleEnd (decide (i = 3) && decide (v = e.val)) g o cs 0 v w) := by
  have hend := rule1 (o := o) (i := 0) hB h1 (.cells #[.int .i64 e.step, .int .i64 e.thread, .int .u8 e.kind, .int .u64 e.val] 37)
  have hgl := hB.lt
  have hgn : w.heap.size ≠ g := by omega
  have hB1 := hB.alloc (.cells #[.int .i64 e.step, .int .i64 e.thread, .int .u8 e.kind, .int .u64 e.val] 37)
  have hE := Blk.new w 37 #[.int .i64 e.step, .int .i64 e.thread, .int .u8 e.kind, .int .u64 e.val]
  have c0 := (hB1.cell o).trans h0
  have c1 := (hB1.cell (o + 1)).trans h1
  have e3 := hE.cell 3
  have c0' := (hB.cell o).trans h0
  have c1' := (hB.cell (o + 1)).trans h1
  have f0' := hB.frozen o
  have f1' := hB.frozen (o + 1)
  have f0 := hB1.frozen o
  have f1 := hB1.frozen (o + 1)
  simp at e3
  unfold evV
  by_cases hi : i = 3
  · subst hi
    by_cases hc : v = e.val
    · rw [decide_eq_true hc]
      have hd : (v == e.val) = true := by simpa using hc
      go_enter Try.func49, Try.ntmps49
      go_wp2_with fail
      go_quiet (fail)
      go_wp2_with fail
      go_ret
      exact ⟨by simp, hend _⟩
    · rw [decide_eq_false hc]
      have hd : (v == e.val) = false := by simpa using hc
      go_enter Try.func49, Try.ntmps49
      go_wp2_with fail
      go_quiet (fail)
      go_wp2_with fail
      go_ret
      exact ⟨by simp, hend _⟩
  · rw [decide_eq_false hi]
    have hd : (i == 3) = false := by simpa using hi
    go_enter Try.func49, Try.ntmps49
    go_wp2_with fail
    go_quiet (fail)
    go_wp2_with fail
    go_ret
    exact ⟨by simp, hend _⟩
end Go.Proofs.Ythkppihfdlmhgaa
