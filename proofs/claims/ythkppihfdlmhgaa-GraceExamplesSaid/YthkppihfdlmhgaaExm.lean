/- The chapter's example: the list, and what the functions return on it. -/
import Derived.Test.YthkppihfdlmhgaaRes
namespace Go.Proofs.Ythkppihfdlmhgaa
open Go Go.RowKit
set_option linter.unusedVariables false

/-- What a slice of one's own holds, as a list that is read. -/
theorem own_reads {w : World} {base e size n c : Nat} {A : Option Addr} {xs : List Value} (h : w.ownsRow base e size (.slice A n c) n xs) : Hid (Reads w w.heap.size size A n xs) ∧ n ≤ c ∧ c ≤ 9223372036854775807 := by
  obtain ⟨A', c', he, h1, h2⟩ := own_form h
  injection he with _ _ e3
  subst e3
  unfold maxLen at h2
  exact ⟨Reads.of_own h, h1, h2⟩
/-- What was read before is read behind. -/
theorem reads_on {w w' : World} {size n : Nat} {A : Option Addr} {xs : List Value} (h : Hid (Reads w w.heap.size size A n xs)) (hb : Below w.heap.size w w') : Hid (Reads w' w'.heap.size size A n xs) := (h.out.below hb).more hb.size
theorem below_on {w w1 w2 : World} (h : Hid (Below w.heap.size w w1)) (hb : Below w1.heap.size w1 w2) : Hid (Below w.heap.size w w2) := h.out.trans (hb.mono h.out.size)
theorem reads_row (W : World) (T : TypeId) (xs : List Value) (n : Nat) {size : Nat} (h : xs.length = n * size) : Hid (Reads (W.alloc (.cells xs.toArray T)) (W.alloc (.cells xs.toArray T)).heap.size size (some ⟨W.heap.size, 0, none⟩) n xs) :=
  reads_at W T xs n _ rfl h

theorem reads_blk {w : World} {g n size : Nat} {T : TypeId} {xs : List Value} (h : Blk w g T xs.toArray) (hl : xs.length = n * size) : Hid (Reads w w.heap.size size (some ⟨g, 0, none⟩) n xs) :=
  ⟨hl, fun _ => ⟨_, rfl, h.lt, fun j u hu => by rw [Addr.add_lit, Nat.zero_add, h.cell]; simpa using hu⟩⟩
end Go.Proofs.Ythkppihfdlmhgaa
