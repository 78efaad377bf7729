/- Prefix and Of, the program's and the reference's, walked (printed by gen_look.py). -/
import Derived.Test.YthkppihfdlmhgaaLookP
import Derived.Test.YthkppihfdlmhgaaCheck
import Derived.Test.YthkppihfdlmhgaaRSec
namespace Go.Proofs.Ythkppihfdlmhgaa
open Go Go.RowKit
set_option linter.unusedVariables false

set_option maxHeartbeats 4000000 in
theorem prefix_any (l : List Ev) (A : Option Addr) (n c : Nat) (t : Int) (w : World) (hr : Hid (Reads w w.heap.size 4 A n (evs l))) (hn : n ≤ 65536) :
    Calls Try.prog 19 #[.int .i64 t, .slice A n c] w (LookEnd 37 (evs (l.filter fun e => decide (e.step ≤ t))) (l.filter fun e => decide (e.step ≤ t)).length l t w) := by
  have hl := Lib.hid (evs_n hr.out)
  obtain ⟨i0, hi0, hz0, hz1, hz2⟩ := info_parts infoEv
  go_enter Try.func19, Try.ntmps19
  go_wp2_with fail
  refine (check_any l A n c _ hr hn).mono ?_
  rintro e w1 ⟨a, er, rfl, hck, hb⟩
  have hb0 := Lib.hid hb
  clear hb
  rcases ckIs_cases hck with ⟨rfl, hbad⟩ | ⟨rfl, hfine⟩
  · have hB := Lib.hid hbad
    clear hck hbad
    go_wp2_with fail
    go_ret2
    exact .inl ⟨hB.out, rfl, hb0.out⟩
  have hF := Lib.hid hfine
  clear hck hfine
  by_cases ht : t < -1
  · have hT := Lib.hid ht
    go_wp2_with fail
    go_ret2
    exact .inr (.inl ⟨hF.out, hT.out, rfl, hb0.out⟩)
  have hT : Hid (¬ t < -1) := Lib.hid ht
  go_wp2_with fail
  go_loopg [8, 23] n (fun g v i wr => ∃ (k : Nat) (os : List Ev), k + g = n ∧ i = .int .i64 k ∧ os.length ≤ k ∧ Hid (os = (l.take k).filter (fun e => decide (e.step ≤ t))) ∧ Hid (wr.ownsRow w.heap.size 37 4 v os.length (evs os)) ∧ Hid (Below w.heap.size w wr))
  case atStart => exact ⟨0, [], by omega, rfl, Nat.le_refl _, by unfold Hid; simp, World.ownsRow_nil _ _ _ _, hb0⟩
  case round =>
    obtain ⟨k, os, hk, rfl, hol, hos, hown, hbel⟩ := hrel
    cases gk with
    | zero =>
      obtain rfl : k = n := by omega
      have hz : Hid (os = l.filter (fun e => decide (e.step ≤ t))) := by
        unfold Hid
        rw [hos.out, List.take_of_length_le (by rw [hl.out]; exact Nat.le_refl _)]
      go_wp2_with fail
      go_ret2
      exact .inr (.inr ⟨_, hF.out, (by have := hT.out; omega), rfl, by rw [← hz.out]; exact hown.out, hbel.out⟩)
    | succ g =>
      obtain ⟨b, o, rfl, hbB⟩ := reads_head hr.out (by omega) (by decide)
      have hsz := Lib.hid hbel.out.size
      have hbw : b < wr.heap.size := by have := hsz.out; omega
      obtain ⟨⟨es, et, ek, ev⟩, he0, c0, c1, c2, c3⟩ := ev_at (hr.out.below hbel.out) (show k < n by omega)
      have hft := filter_take (fun e => decide (e.step ≤ t)) he0
      clear he0
      dsimp only at c0 c1 c2 c3 hft
      have k0 : (0 : Int) ≤ (k : Int) := by omega
      have k1 : (k : Int) < (n : Int) := by omega
      have hbelx : Hid (Below w.heap.size w (wr.alloc (.cells #[.int .i64 es, .int .i64 et, .int .u8 ek, .int .u64 ev] 37))) := hbel.out.alloc hsz.out _
      have hX := Blk.new wr 37 #[.int .i64 es, .int .i64 et, .int .u8 ek, .int .u64 ev]
      have x0 := hX.cell 0
      have x1 := hX.cell 1
      have x2 := hX.cell 2
      have x3 := hX.cell 3
      simp only [List.getElem?_toArray, List.getElem?_cons_zero, List.getElem?_cons_succ] at x0 x1 x2 x3
      clear hX
      by_cases hc : es ≤ t
      · rw [decide_eq_true hc] at hft
        have hS2 := Lib.hid (show os ++ [(⟨es, et, ek, ev⟩ : Ev)] = (l.take (k + 1)).filter (fun e => decide (e.step ≤ t)) from by rw [hft, if_pos rfl, hos.out])
        have hd := decide_eq_true hc
        clear hft
        go_wp2_with (at_builtin; refine wpList_append_any _ rfl (.tmp 31) (.tmp 33) 22 rfl (w.heap.size) 37 i0 _ 4 32 Try.underlying22 hi0 hz0 hz1 hz2 rfl (by decide) u8 os.length (evs os) rfl ((hown.out.alloc _).alloc _) (wr.heap.size + 2) (some ⟨wr.heap.size + 1, 0, none⟩) 1 1 (evC (⟨es, et, ek, ev⟩ : Ev)) rfl ((reads_at (wr.alloc _) _ (evC (⟨es, et, ek, ev⟩ : Ev)) 1 _ (by simp) rfl).more (by simp)) (evC_one _) (by unfold maxLen; omega) (by omega) (by have := hsz.out; simp; omega) ?_; intro v1 w3 hown1 hg1 hat1)
        have hown2 : Hid (w3.ownsRow (w.heap.size) 37 4 v1 (os ++ [(⟨es, et, ek, ev⟩ : Ev)]).length (evs (os ++ [(⟨es, et, ek, ev⟩ : Ev)]))) := by
          unfold Hid
          rw [List.length_append]
          exact own_snocE hown1
        have hbel4 : Hid (Below w.heap.size w w3) := ((hbel.out.alloc hsz.out _).alloc (by have := hsz.out; simp; omega) _).grown hg1 (by have := hsz.out; simp; omega) (fun q hq => (hown.out.lt q hq).1)
        clear hown1 hg1 hat1
        go_wp2_with fail
        go_roundg g
        case measure => omega
        case rel => exact ⟨k + 1, os ++ [⟨es, et, ek, ev⟩], by omega, by go_num, by simp; omega, hS2, hown2, hbel4⟩
      · rw [decide_eq_false hc] at hft
        have hS2 := Lib.hid (hos.out.trans hft.symm)
        have hd := decide_eq_false hc
        clear hft
        go_wp2_with fail
        go_roundg g
        case measure => omega
        case rel => exact ⟨k + 1, os, by omega, by go_num, by omega, hS2, hown.out.alloc _, hbelx⟩

end Go.Proofs.Ythkppihfdlmhgaa
