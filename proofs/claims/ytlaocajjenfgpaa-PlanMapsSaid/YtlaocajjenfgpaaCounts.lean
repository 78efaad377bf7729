/- Counts, walked: the program's and the reference's (printed by gen_counts.py). -/
import Derived.Test.YtlaocajjenfgpaaAppM
import Derived.Test.YtlaocajjenfgpaaDraws
import Derived.OwnWalk
namespace Go.Proofs.Ytlaocajjenfgpaa
open Go Go.RowKit
set_option linter.unusedVariables false

theorem results_tmp4 {fn : Func} {t u v x : Tmp} (h : fn.results = #[.tmp t, .tmp u, .tmp v, .tmp x]) (tmps : Array Value) (P : Program) (w : World) :
    (results fn tmps).run P w = .ok (.tuple #[tmps.getD t undef, tmps.getD u undef, tmps.getD v undef, tmps.getD x undef]) w := by
  simp [results, h]
/-- The three numbers, as far as k. -/
def CntAt (l : List Chg) (k x y z : Nat) : Prop := born (l.take k) = x ∧ gone (l.take k) = y ∧ swapped (l.take k) = z
theorem cntAt_zero (l : List Chg) : CntAt l 0 0 0 0 := ⟨rfl, rfl, rfl⟩
theorem cntAt_le {l : List Chg} {k x y z : Nat} (h : CntAt l k x y z) : x + y + z ≤ k := by
  obtain ⟨rfl, rfl, rfl⟩ := h
  rw [counts_all]
  exact List.length_take_le _ _
theorem cntAt_born {l : List Chg} {k x y z : Nat} {c : Chg} (h : CntAt l k x y z) (hc : l[k]? = some c) (hw : c.was = false) : CntAt l (k + 1) (x + 1) y z := by
  obtain ⟨rfl, rfl, rfl⟩ := h
  unfold CntAt born gone swapped
  rw [List.take_add_one, hc]
  simp [hw]
theorem cntAt_gone {l : List Chg} {k x y z : Nat} {c : Chg} (h : CntAt l k x y z) (hc : l[k]? = some c) (hw : c.was = true) (hi : c.is = false) : CntAt l (k + 1) x (y + 1) z := by
  obtain ⟨rfl, rfl, rfl⟩ := h
  unfold CntAt born gone swapped
  rw [List.take_add_one, hc]
  simp [hw, hi]
theorem cntAt_swapped {l : List Chg} {k x y z : Nat} {c : Chg} (h : CntAt l k x y z) (hc : l[k]? = some c) (hw : c.was = true) (hi : c.is = true) : CntAt l (k + 1) x y (z + 1) := by
  obtain ⟨rfl, rfl, rfl⟩ := h
  unfold CntAt born gone swapped
  rw [List.take_add_one, hc]
  simp [hw, hi]
theorem cntAt_all {l : List Chg} {x y z : Nat} (h : CntAt l l.length x y z) : born l = x ∧ gone l = y ∧ swapped l = z := by
  unfold CntAt at h
  rwa [List.take_length] at h
/-- What Counts returns. -/
def CountEnd (l : List Chg) (w : World) (e : Ending) (w' : World) : Prop :=
  (Plan l → e = .returned (.tuple #[.int .i64 (born l), .int .i64 (gone l), .int .i64 (swapped l), .int .i64 0])) ∧ (¬ Plan l → e = .returned (.tuple #[.int .i64 0, .int .i64 0, .int .i64 0, .int .i64 2])) ∧ Below w.heap.size w w'

set_option maxRecDepth 100000 in
set_option maxHeartbeats 1000000 in
theorem counts_any (l : List Chg) (A : Option Addr) (n c : Nat) (w : World) (hr : Hid (Reads w w.heap.size 5 A n (chs l))) (hn : n ≤ 4611686018427387904) :
    Calls Try.prog 26 #[.slice A n c] w (CountEnd l w) := by
  have hlen := Lib.hid (chs_n hr.out)
  go_enter Try.func26, Try.ntmps26
  go_wp2_with fail
  refine (check_any l A n c w hr (by omega)).mono ?_
  rintro e w1 ⟨h1, h2, hb⟩
  have hb1 := Lib.hid hb
  clear hb
  by_cases hp : Plan l
  · obtain rfl := h1 hp
    have hP := Lib.hid hp
    clear h1 h2 hp
    go_wp2_with fail
    go_loopw [2, 3, 4, 16] (fun a b c i wr => ∃ k x y z : Nat, k ≤ n ∧ i = .int .i64 k ∧ a = .int .i64 x ∧ b = .int .i64 y ∧ c = .int .i64 z ∧ x + y + z ≤ k ∧ Hid (CntAt l k x y z) ∧ Hid (Below w.heap.size w wr)) (fun _ _ _ i _ => n - (intOf i).toNat)
    case atStart => exact ⟨0, 0, 0, 0, by omega, rfl, rfl, rfl, rfl, by omega, cntAt_zero l, hb1.out⟩
    case round =>
      obtain ⟨k, x, y, z, hk, rfl, rfl, rfl, rfl, hle, hC, hbel⟩ := hrel
      have hsz := Lib.hid hbel.out.size
      by_cases hlt : k < n
      · obtain ⟨b, o, rfl, hbB⟩ := reads_head hr.out (by omega) (by decide)
        obtain ⟨c, hx, c0, c1, c2, c3, c4⟩ := chs_at (hr.out.below hbel.out) hlt
        have hX := Lib.hid hx
        obtain ⟨key, was, old, is, new⟩ := c
        dsimp only at c0 c1 c2 c3 c4
        have i0' : (0 : Int) ≤ (k : Int) := by omega
        have i1 : (k : Int) < (n : Int) := by omega
        have hbw : b < wr.heap.size := by have := hsz.out; omega
        have x0 : (0 : Int) ≤ (x : Int) := by omega
        have y0 : (0 : Int) ≤ (y : Int) := by omega
        have z0 : (0 : Int) ≤ (z : Int) := by omega
        clear hx
        rcases was with _ | _
        · have hC2 := Lib.hid (cntAt_born hC.out hX.out rfl)
          go_wp2_with fail
          go_roundw
          case rel => exact ⟨k + 1, x + 1, y, z, by omega, by go_num, by go_num, rfl, rfl, by omega, hC2, hbel.out.alloc hsz.out _⟩
          case measure => simp [intOf]; omega
        · rcases is with _ | _
          · have hC2 := Lib.hid (cntAt_gone hC.out hX.out rfl rfl)
            go_wp2_with fail
            go_roundw
            case rel => exact ⟨k + 1, x, y + 1, z, by omega, by go_num, rfl, by go_num, rfl, by omega, hC2, hbel.out.alloc hsz.out _⟩
            case measure => simp [intOf]; omega
          · have hC2 := Lib.hid (cntAt_swapped hC.out hX.out rfl rfl)
            go_wp2_with fail
            go_roundw
            case rel => exact ⟨k + 1, x, y, z + 1, by omega, by go_num, rfl, rfl, by go_num, by omega, hC2, hbel.out.alloc hsz.out _⟩
            case measure => simp [intOf]; omega
      · obtain rfl : k = n := by omega
        have hA : Hid (born l = x ∧ gone l = y ∧ swapped l = z) := cntAt_all (by rw [hlen.out]; exact hC.out)
        go_wp2_with fail
        (try simp only [Exit.inBlock, Exit.then])
        refine bodyPost_ret (results_tmp4 rfl _ _ _) rfl ?_
        exact ⟨fun _ => by rw [hA.out.1, hA.out.2.1, hA.out.2.2]; rfl, fun h => absurd hP.out h, hbel.out⟩
  · obtain rfl := h2 hp
    have hP := Lib.hid hp
    clear h1 h2 hp
    go_wp2_with fail
    (try simp only [Exit.inBlock, Exit.then])
    refine bodyPost_ret (results_tmp4 rfl _ _ _) rfl ?_
    exact ⟨fun h => absurd h hP.out, fun _ => rfl, hb1.out⟩

set_option maxRecDepth 100000 in
set_option maxHeartbeats 1000000 in
theorem refcounts_any (l : List Chg) (A : Option Addr) (n c : Nat) (w : World) (hr : Hid (Reads w w.heap.size 5 A n (chs l))) (hn : n ≤ 4611686018427387904) :
    Calls Try.prog 27 #[.slice A n c] w (CountEnd l w) := by
  have hlen := Lib.hid (chs_n hr.out)
  go_enter Try.func27, Try.ntmps27
  go_wp2_with fail
  refine (refcheck_any l A n c w hr (by omega)).mono ?_
  rintro e w1 ⟨h1, h2, hb⟩
  have hb1 := Lib.hid hb
  clear hb
  by_cases hp : Plan l
  · obtain rfl := h1 hp
    have hP := Lib.hid hp
    clear h1 h2 hp
    go_wp2_with fail
    go_loopw [7, 8, 9, 10] (fun a b c i wr => ∃ k x y z : Nat, k ≤ n ∧ i = .int .i64 k ∧ a = .int .i64 x ∧ b = .int .i64 y ∧ c = .int .i64 z ∧ x + y + z ≤ k ∧ Hid (CntAt l k x y z) ∧ Hid (Below w.heap.size w wr)) (fun _ _ _ i _ => n - (intOf i).toNat)
    case atStart => exact ⟨0, 0, 0, 0, by omega, rfl, rfl, rfl, rfl, by omega, cntAt_zero l, hb1.out⟩
    case round =>
      obtain ⟨k, x, y, z, hk, rfl, rfl, rfl, rfl, hle, hC, hbel⟩ := hrel
      have hsz := Lib.hid hbel.out.size
      by_cases hlt : k < n
      · obtain ⟨b, o, rfl, hbB⟩ := reads_head hr.out (by omega) (by decide)
        obtain ⟨c, hx, c0, c1, c2, c3, c4⟩ := chs_at (hr.out.below hbel.out) hlt
        have hX := Lib.hid hx
        obtain ⟨key, was, old, is, new⟩ := c
        dsimp only at c0 c1 c2 c3 c4
        have i0' : (0 : Int) ≤ (k : Int) := by omega
        have i1 : (k : Int) < (n : Int) := by omega
        have hbw : b < wr.heap.size := by have := hsz.out; omega
        have x0 : (0 : Int) ≤ (x : Int) := by omega
        have y0 : (0 : Int) ≤ (y : Int) := by omega
        have z0 : (0 : Int) ≤ (z : Int) := by omega
        clear hx
        rcases was with _ | _
        · have hC2 := Lib.hid (cntAt_born hC.out hX.out rfl)
          go_wp2_with fail
          go_roundw
          case rel => exact ⟨k + 1, x + 1, y, z, by omega, by go_num, by go_num, rfl, rfl, by omega, hC2, hbel.out⟩
          case measure => simp [intOf]; omega
        · rcases is with _ | _
          · have hC2 := Lib.hid (cntAt_gone hC.out hX.out rfl rfl)
            go_wp2_with fail
            go_roundw
            case rel => exact ⟨k + 1, x, y + 1, z, by omega, by go_num, rfl, by go_num, rfl, by omega, hC2, hbel.out⟩
            case measure => simp [intOf]; omega
          · have hC2 := Lib.hid (cntAt_swapped hC.out hX.out rfl rfl)
            go_wp2_with fail
            go_roundw
            case rel => exact ⟨k + 1, x, y, z + 1, by omega, by go_num, rfl, rfl, by go_num, by omega, hC2, hbel.out⟩
            case measure => simp [intOf]; omega
      · obtain rfl : k = n := by omega
        have hA : Hid (born l = x ∧ gone l = y ∧ swapped l = z) := cntAt_all (by rw [hlen.out]; exact hC.out)
        go_wp2_with fail
        (try simp only [Exit.inBlock, Exit.then])
        refine bodyPost_ret (results_tmp4 rfl _ _ _) rfl ?_
        exact ⟨fun _ => by rw [hA.out.1, hA.out.2.1, hA.out.2.2]; rfl, fun h => absurd hP.out h, hbel.out⟩
  · obtain rfl := h2 hp
    have hP := Lib.hid hp
    clear h1 h2 hp
    go_wp2_with fail
    (try simp only [Exit.inBlock, Exit.then])
    refine bodyPost_ret (results_tmp4 rfl _ _ _) rfl ?_
    exact ⟨fun h => absurd h hP.out, fun _ => rfl, hb1.out⟩
end Go.Proofs.Ytlaocajjenfgpaa
