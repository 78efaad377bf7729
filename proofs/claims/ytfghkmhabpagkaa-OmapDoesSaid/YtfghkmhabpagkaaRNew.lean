/- The reference's New, walked. -/
import Derived.Test.YtfghkmhabpagkaaRMeth2
import Derived.Deep.LoopGhost
namespace Go.Proofs.Ytfghkmhabpagkaa
open Go Go.RowKit
set_option linter.unusedVariables false

def RNewEnd (l : List Pr) (w : World) (e : Ending) (w' : World) : Prop :=
  Below w.heap.size w w' ∧ ((NoDup l l.length ∧ ∃ g, e = .returned (.tuple #[.pointer (some ⟨g, 0, none⟩), .int .i64 0]) ∧ w.heap.size ≤ g ∧ IsM w' g (puts [] l)) ∨
    (¬ NoDup l l.length ∧ e = .returned (.tuple #[.pointer none, .int .i64 9])))
set_option maxRecDepth 100000 in
set_option maxHeartbeats 4000000 in
theorem rnew_any (l : List Pr) (A : Option Addr) (n c : Nat) (w : World) (hr : Hid (Reads w w.heap.size 2 A n (prs l))) (hn : n ≤ 400000) :
    Calls Try.prog 21 #[.slice A n c] w (RNewEnd l w) := by
  have hll := Lib.hid (prs_n hr.out)
  have hb0 : Hid (Below w.heap.size w (w.alloc (.cells #[.slice none 0 0] 85))) := (Below.refl _ _).alloc (Nat.le_refl _) _
  have hM0 : Hid (IsM (w.alloc (.cells #[.slice none 0 0] 85)) w.heap.size []) := ⟨none, 0, 0, Blk.new _ _ _, reads_zero none, by omega, by omega, by omega⟩
  unfold RNewEnd
  go_enter Try.func21, Try.ntmps21
  go_wp2_with fail
  go_loopg [5] n (fun g i wr => ∃ k : Nat, k + g = n ∧ i = .int .i64 k ∧ Hid (IsM wr w.heap.size (puts [] (l.take k))) ∧ Hid (Below w.heap.size w wr) ∧ Hid (NoDup l k))
  case atStart => exact ⟨0, by omega, rfl, hM0.out, hb0.out, fun j p _ h => absurd h (by omega)⟩
  case round =>
    clear hM0 hb0
    obtain ⟨k, hk, rfl, hM, hbel, hnd⟩ := hrel
    cases gk with
    | zero =>
      obtain rfl : n = k := by omega
      have hM2 : Hid (IsM wr w.heap.size (puts [] l)) := by
        have h1 := hM.out
        rw [List.take_of_length_le (by rw [hll.out]; exact Nat.le_refl _)] at h1
        exact h1
      clear hM
      go_wp2_with fail
      go_ret2
      exact ⟨hbel.out, .inl ⟨by rw [hll.out]; exact hnd.out, w.heap.size, rfl, Nat.le_refl _, hM2.out⟩⟩
    | succ g =>
      have hsz := Lib.hid hbel.out.size
      obtain ⟨b, o, rfl, hbB⟩ := reads_head hr.out (by omega) (by decide)
      obtain ⟨p, hx, c0, c1⟩ := prs_at (hr.out.below hbel.out) (show k < n by omega)
      have hst := puts_step' (base := []) hx
      have hxh := Lib.hid hx
      obtain ⟨pk, pv⟩ := p
      dsimp only at c0 c1
      have i0 : (0 : Int) ≤ (k : Int) := by omega
      have i1 : (k : Int) < (n : Int) := by omega
      have hpl : (puts [] (l.take k)).length ≤ 800000 := by
        have h1 := puts_len (l.take k) []
        have h2 : (l.take k).length ≤ k := List.length_take_le _ _
        simp at h1
        omega
      have hplace := place_any (puts [] (l.take k)) w.heap.size pk wr hM
      have hsth := Lib.hid hst
      clear hst hx
      cases hlk : look Pr.key (puts [] (l.take k)) pk with
      | none =>
        have hnd2 := Lib.hid (hnd.out.step hxh.out hlk)
        rw [place_none hlk] at hplace
        clear hlk
        go_wp2_with fail
        refine hplace.mono ?_
        rintro e w2 ⟨rfl, rfl⟩
        clear hplace
        go_wp2_with fail
        refine (set_any (puts [] (l.take k)) w.heap.size pk pv wr hM (by omega)).mono ?_
        rintro e w3 ⟨⟨x, rfl⟩, hE⟩
        have hM3 : Hid (IsM w3 w.heap.size (puts [] (l.take (k + 1)))) := by unfold Hid; rw [hsth.out]; exact hE.1
        have hb3 : Hid (Below w.heap.size w w3) := below_map hbel.out hE.2 hsz.out (Nat.le_refl _)
        clear hE hM hbel hnd c0 c1
        go_wp2_with fail
        go_roundg g
        case measure => omega
        case rel => exact ⟨k + 1, by omega, by go_num, hM3, hb3, hnd2⟩
      | some q =>
        obtain ⟨i, hi, _⟩ := place_some hlk
        rw [hi] at hplace
        have hno : Hid (¬ NoDup l l.length) := fun h => by
          have h1 := h k _ hxh.out (by rw [hll.out]; omega)
          rw [hlk] at h1
          cases h1
        have hi0 : (0 : Int) ≤ (i : Int) := by omega
        clear hlk hi hM hnd
        go_wp2_with fail
        refine hplace.mono ?_
        rintro e w2 ⟨rfl, rfl⟩
        clear hplace
        go_wp2_with fail
        go_ret2
        exact ⟨hbel.out, .inr ⟨hno.out, rfl⟩⟩
end Go.Proofs.Ytfghkmhabpagkaa
