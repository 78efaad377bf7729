/- The chapter's example: the list, and what the functions return on it. -/
import Derived.Test.YtbdnpgagbjkapaaRes
namespace Go.Proofs.Ytbdnpgagbjkapaa
open Go Go.RowKit
set_option linter.unusedVariables false

/-- What a slice of one's own holds, as a list that is read. -/
theorem own_reads {w : World} {base e size n c : Nat} {A : Option Addr} {xs : List Value} (h : w.ownsRow base e size (.slice A n c) n xs) : Hid (Reads w w.heap.size size A n xs) ∧ n ≤ c ∧ c ≤ 9223372036854775807 := by
  obtain ⟨A', c', he, h1, h2⟩ := own_form h
  injection he with _ _ e3
  subst e3
  unfold maxLen at h2
  exact ⟨Reads.of_own h, h1, h2⟩
/-- What was read before is read behind. -/
theorem reads_on {w w' : World} {size n : Nat} {A : Option Addr} {xs : List Value} (h : Hid (Reads w w.heap.size size A n xs)) (hb : Below w.heap.size w w') : Hid (Reads w' w'.heap.size size A n xs) := (h.out.below hb).more hb.size
theorem below_on {w w1 w2 : World} (h : Hid (Below w.heap.size w w1)) (hb : Below w1.heap.size w1 w2) : Hid (Below w.heap.size w w2) := h.out.trans (hb.mono h.out.size)
theorem reads_row (W : World) (T : TypeId) (xs : List Value) (n : Nat) {size : Nat} (h : xs.length = n * size) : Hid (Reads (W.alloc (.cells xs.toArray T)) (W.alloc (.cells xs.toArray T)).heap.size size (some ⟨W.heap.size, 0, none⟩) n xs) :=
  reads_at W T xs n _ rfl h

def exE : List Ev := [⟨1, 0, 1, 3⟩, ⟨2, 1, 3, 8⟩, ⟨4, 0, 2, 3⟩, ⟨5, 1, 4, 8⟩, ⟨7, 1, 3, 1⟩, ⟨7, 1, 4, 1⟩]
def exW : List Ev := [⟨1, 0, 1, 3⟩, ⟨2, 1, 3, 8⟩, ⟨4, 0, 2, 2⟩, ⟨5, 1, 4, 8⟩, ⟨7, 1, 3, 1⟩, ⟨7, 1, 4, 1⟩]
def exC : Array Value := (evs exE).toArray
theorem ex_fine : FineTo exE exE.length := fineB_to (by decide)
theorem aw_at : atL exE = 0 := (at_fine ex_fine).1
theorem aw_er : errL exE = 0 := (at_fine ex_fine).2
theorem aw_s : secL 1 exE = [⟨0, 3, 1, 4⟩] := by rw [secL_fine ex_fine]; decide
theorem aw_w : secL 3 exE = [⟨1, 8, 2, 5⟩, ⟨1, 1, 7, 7⟩] := by rw [secL_fine ex_fine]; decide
theorem aw_o1 : opnL exE 1 = [⟨0, 3, 1, -1⟩] := by rw [opnL_fine ex_fine (by decide)]; decide
theorem aw_o4 : opnL exE 4 = [] := by rw [opnL_fine ex_fine (by decide)]; decide
theorem aw_l1 : lookEr exE 1 = 0 := lookEr_fine ex_fine (by decide)
theorem aw_l4 : lookEr exE 4 = 0 := lookEr_fine ex_fine (by decide)
theorem aw_l3 : lookEr exE 3 = 0 := lookEr_fine ex_fine (by decide)
theorem aw_l2 : lookEr exE (-2) = 3 := by unfold lookEr; rw [if_pos ex_fine, if_pos (by decide)]
theorem aw_i0 : insR exE 0 3 = (⟨0, 3, 1, -1⟩, true, 0) := by
  unfold insR
  rw [if_pos ex_fine, if_pos (by decide), if_neg (by decide), show (secsK 1 exE).filterMap (openS 3) = [⟨0, 3, 1, -1⟩] by decide]
  rfl
theorem aw_i1 : insR exE 1 3 = (zS, false, 0) := by
  unfold insR
  rw [if_pos ex_fine, if_pos (by decide), if_neg (by decide), show (secsK 1 exE).filterMap (openS 3) = [⟨0, 3, 1, -1⟩] by decide]
  rfl
theorem aw_p3 : (preL exE 3).length = 2 := by rw [preL_fine ex_fine (by decide)]; decide
theorem aw_p2 : preL exE (-2) = [] := by unfold preL; rw [if_neg (fun h => h.2 (by decide))]
theorem aw_bad : atL exW = 2 ∧ errL exW = 15 := at_bad (k := 2) (e := ⟨4, 0, 2, 2⟩) (by decide) rfl (by decide)
theorem aw_cut : atL (exE.drop 1) = 1 ∧ errL (exE.drop 1) = 15 := at_bad (k := 1) (e := ⟨4, 0, 2, 3⟩) (by decide) rfl (by decide)
/-- What example returns. -/
def ExRes (w : World) (e : Ending) (w' : World) : Prop :=
  e = .returned (.slice (some ⟨w.heap.size, 0, none⟩) 6 6) ∧ Hid (Reads w' w'.heap.size 4 (some ⟨w.heap.size, 0, none⟩) 6 (evs exE)) ∧ Hid (Blk w' w.heap.size 58 exC) ∧ Below w.heap.size w w'
theorem example_any (w : World) : Calls Try.prog 28 #[] w (ExRes w) := by
  have h1 := reads_row w 58 (evs exE) 6 (size := 4) rfl
  have h2 := Blk.new w 58 exC
  have h3 := (Below.refl _ w).alloc (Nat.le_refl _) (.cells exC 58)
  go_enter Try.func28, Try.ntmps28
  go_wp2_with fail
  go_ret
  exact ⟨rfl, h1, h2, h3⟩
theorem reads_blk {w : World} {g n size : Nat} {T : TypeId} {xs : List Value} (h : Blk w g T xs.toArray) (hl : xs.length = n * size) : Hid (Reads w w.heap.size size (some ⟨g, 0, none⟩) n xs) :=
  ⟨hl, fun _ => ⟨_, rfl, h.lt, fun j u hu => by rw [Addr.add_lit, Nat.zero_add, h.cell]; simpa using hu⟩⟩
/-- The same, whatever the block's number is called. -/
theorem example_at (w : World) (X : Nat) (hX : X = w.heap.size) : Calls Try.prog 28 #[] w fun e w' => e = .returned (.slice (some ⟨X, 0, none⟩) 6 6) ∧ Hid (Reads w' w'.heap.size 4 (some ⟨X, 0, none⟩) 6 (evs exE)) ∧ Hid (Blk w' X 58 exC) ∧ Below w.heap.size w w' := by
  subst hX
  exact example_any w
end Go.Proofs.Ytbdnpgagbjkapaa
