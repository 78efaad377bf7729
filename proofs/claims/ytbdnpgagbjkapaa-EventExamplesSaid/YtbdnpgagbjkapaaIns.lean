/- Inside, the program's and the reference's, walked (printed by gen_ins.py). -/
import Derived.Test.YtbdnpgagbjkapaaInsP
namespace Go.Proofs.Ytbdnpgagbjkapaa
open Go Go.RowKit
set_option linter.unusedVariables false

set_option maxHeartbeats 4000000 in
theorem inside_any (l : List Ev) (A : Option Addr) (n c : Nat) (tt t : Int) (w : World) (hr : Hid (Reads w w.heap.size 4 A n (evs l))) (hn : n ≤ 65536) :
    Calls Try.prog 22 #[.int .i64 tt, .int .i64 t, .slice A n c] w (InsEnd l tt t w) := by
  have hb0 := (Below.refl _ w).alloc (Nat.le_refl _) (.cells #[.int .i64 0, .int .u64 0, .int .i64 0, .int .i64 0] 41)
  have hr1 : Hid (Reads (w.alloc (.cells #[.int .i64 0, .int .u64 0, .int .i64 0, .int .i64 0] 41)) (w.alloc (.cells #[.int .i64 0, .int .u64 0, .int .i64 0, .int .i64 0] 41)).heap.size 4 A n (evs l)) := Lib.hid ((hr.out.below hb0).more hb0.size)
  have hB0 := Blk.new w 41 #[.int .i64 0, .int .u64 0, .int .i64 0, .int .i64 0]
  go_enter Try.func22, Try.ntmps22
  go_wp2_with fail
  refine (check_any l A n c _ hr1 hn).mono ?_
  rintro e w1 ⟨a, er, rfl, hck, hb⟩
  have hb1 : Hid (Below w.heap.size w w1) := Lib.hid (hb0.trans (hb.mono hb0.size))
  have hB1 : Blk w1 w.heap.size 41 #[.int .i64 0, .int .u64 0, .int .i64 0, .int .i64 0] := hB0.below hb (by simp)
  have f0 := hB1.frozen 0
  have f1 := hB1.frozen 1
  have f2 := hB1.frozen 2
  have f3 := hB1.frozen 3
  have g0 := hB1.cell 0
  have g1 := hB1.cell 1
  have g2 := hB1.cell 2
  have g3 := hB1.cell 3
  simp only [List.getElem?_toArray, List.getElem?_cons_zero, List.getElem?_cons_succ] at g0 g1 g2 g3
  clear hb hB0 hb0
  rcases ckIs_cases hck with ⟨rfl, hbad⟩ | ⟨rfl, hfine⟩
  · have hB := Lib.hid hbad
    clear hck hbad
    go_wp2_with fail
    refine bodyPost_ret (results_ins rfl _ _ w.heap.size 41 _ (0, 0) _ rfl (set4 hB1) Try.underlying41 rfl (by kernel_rfl)) rfl ?_
    exact ⟨zS, false, 15, rfl, .inl ⟨hB.out, rfl, rfl, rfl⟩, set4b hb1.out (Nat.le_refl _)⟩
  have hF := Lib.hid hfine
  clear hck hfine
  by_cases htt : 0 ≤ tt ∧ tt < 64
  case neg =>
    have hT := Lib.hid htt
    go_wp2_with fail
    all_goals first
      | (exfalso; omega)
      | (refine bodyPost_ret (results_ins rfl _ _ w.heap.size 41 _ (0, 0) _ rfl (set4 hB1) Try.underlying41 rfl (by kernel_rfl)) rfl ?_
         exact ⟨zS, false, 2, rfl, .inr (.inl ⟨hF.out, hT.out, rfl, rfl, rfl⟩), set4b hb1.out (Nat.le_refl _)⟩)
  have hT := Lib.hid htt
  obtain ⟨ht0, ht1⟩ := htt
  have hr2 : Hid (Reads w1 w1.heap.size 4 A n (evs l)) := Lib.hid ((hr.out.below hb1.out).more hb1.out.size)
  have hB2 := Lib.hid hB1
  go_wp2_with fail
  refine (open_any l A n c t _ hr2 hn).mono ?_
  clear f0 f1 f2 f3 g0 g1 g2 g3 hr1 hr2 hB1
  rintro e w2 (⟨hnf, _, _⟩ | ⟨_, ht, rfl, hb⟩ | ⟨v, _, ht, rfl, ho, hb⟩)
  · exact absurd hF.out hnf
  · have hT2 := Lib.hid ht
    have hb2 : Hid (Below w.heap.size w w2) := hb1.out.trans (hb.mono hb1.out.size)
    have hB1 : Blk w2 w.heap.size 41 #[.int .i64 0, .int .u64 0, .int .i64 0, .int .i64 0] := hB2.out.below hb hB2.out.lt
    have f0 := hB1.frozen 0
    have f1 := hB1.frozen 1
    have f2 := hB1.frozen 2
    have f3 := hB1.frozen 3
    have g0 := hB1.cell 0
    have g1 := hB1.cell 1
    have g2 := hB1.cell 2
    have g3 := hB1.cell 3
    simp only [List.getElem?_toArray, List.getElem?_cons_zero, List.getElem?_cons_succ] at g0 g1 g2 g3
    clear hb
    go_wp2_with fail
    refine bodyPost_ret (results_ins rfl _ _ w.heap.size 41 _ (0, 0) _ rfl (set4 hB1) Try.underlying41 rfl (by kernel_rfl)) rfl ?_
    exact ⟨zS, false, 3, rfl, .inr (.inr (.inl ⟨hF.out, hT.out, hT2.out, rfl, rfl, rfl⟩)), set4b hb2.out (Nat.le_refl _)⟩
  have hT2 := Lib.hid ht
  have hb2 : Hid (Below w.heap.size w w2) := hb1.out.trans (hb.mono hb1.out.size)
  have hB3 : Hid (Blk w2 w.heap.size 41 #[.int .i64 0, .int .u64 0, .int .i64 0, .int .i64 0]) := hB2.out.below hb hB2.out.lt
  have hmn : ((secsK 1 l).filterMap (openS t)).length ≤ 65536 := by have h1 := List.length_filterMap_le (openS t) (secsK 1 l); have h2 := secsK_len 1 l; have h3 := evs_n hr.out; omega
  obtain ⟨SA, sc, rfl, hsc, hsc'⟩ := own_form ho
  have hsr0 := Lib.hid (Reads.of_own ho)
  clear ho hb ht
  generalize hSS : (secsK 1 l).filterMap (openS t) = ss at hsr0 hmn hsc
  have hss := Lib.hid hSS
  clear hSS
  have hsr : Hid (Reads w2 w2.heap.size 4 SA ss.length (secs ss)) := hsr0
  clear hsr0
  go_wp2_with fail
  go_loopg [43] ss.length (fun g i wr => ∃ (k : Nat), k + g = ss.length ∧ i = .int .i64 k ∧ Hid ((ss.take k).find? (fun s => decide (s.thread = tt)) = none) ∧ Hid (Below w2.heap.size w2 wr))
  case atStart => exact ⟨0, by omega, rfl, by unfold Hid; simp, Below.refl _ _⟩
  case round =>
    obtain ⟨k, hk, rfl, hN, hbel⟩ := hrel
    have hbw2 : Hid (Below w.heap.size w wr) := hb2.out.trans (hbel.out.mono hb2.out.size)
    have hB1 : Blk wr w.heap.size 41 #[.int .i64 0, .int .u64 0, .int .i64 0, .int .i64 0] := hB3.out.below hbel.out hB3.out.lt
    have f0 := hB1.frozen 0
    have f1 := hB1.frozen 1
    have f2 := hB1.frozen 2
    have f3 := hB1.frozen 3
    have g0 := hB1.cell 0
    have g1 := hB1.cell 1
    have g2 := hB1.cell 2
    have g3 := hB1.cell 3
    simp only [List.getElem?_toArray, List.getElem?_cons_zero, List.getElem?_cons_succ] at g0 g1 g2 g3
    cases gk with
    | zero =>
      obtain rfl : k = ss.length := by omega
      go_wp2_with fail
      refine bodyPost_ret (results_ins rfl _ _ w.heap.size 41 _ (0, 0) _ rfl (set4 hB1) Try.underlying41 rfl (by kernel_rfl)) rfl ?_
      exact ⟨zS, false, 0, rfl, .inr (.inr (.inr ⟨hF.out, hT.out, (by have := hT2.out; omega), rfl, (by rw [hss.out]; have := hN.out; rw [List.take_of_length_le (Nat.le_refl _)] at this; rw [this]; rfl), fun _ => rfl⟩)), set4b hbw2.out (Nat.le_refl _)⟩
    | succ g =>
      obtain ⟨b, o, rfl, hbB⟩ := reads_head hsr.out (by omega) (by decide)
      have hsz := Lib.hid hbel.out.size
      have hbw : b < wr.heap.size := by have := hsz.out; omega
      obtain ⟨⟨st, sv, sn, sx⟩, he0, c0, c1, c2, c3⟩ := sec_at (hsr.out.below hbel.out) (show k < ss.length by omega)
      have hft := find_take (fun s : Sec => decide (s.thread = tt)) he0 hN.out
      clear he0
      dsimp only at c0 c1 c2 c3 hft
      have k0 : (0 : Int) ≤ (k : Int) := by omega
      have k1 : (k : Int) < (ss.length : Int) := by omega
      have hbelx : Hid (Below w2.heap.size w2 (wr.alloc (.cells #[.int .i64 st, .int .u64 sv, .int .i64 sn, .int .i64 sx] 41))) := hbel.out.alloc hsz.out _
      have hX := Blk.new wr 41 #[.int .i64 st, .int .u64 sv, .int .i64 sn, .int .i64 sx]
      have x0 := hX.cell 0
      have x1 := hX.cell 1
      have x2 := hX.cell 2
      have x3 := hX.cell 3
      simp only [List.getElem?_toArray, List.getElem?_cons_zero, List.getElem?_cons_succ] at x0 x1 x2 x3
      clear hX
      have hBx := hB1.alloc (.cells #[.int .i64 st, .int .u64 sv, .int .i64 sn, .int .i64 sx] 41)
      have hbx : Hid (Below w.heap.size w (wr.alloc (.cells #[.int .i64 st, .int .u64 sv, .int .i64 sn, .int .i64 sx] 41))) := hbw2.out.alloc hbw2.out.size _
      have f4 := hBx.frozen 0
      have f5 := hBx.frozen 1
      have f6 := hBx.frozen 2
      have f7 := hBx.frozen 3
      have g4 := hBx.cell 0
      have g5 := hBx.cell 1
      have g6 := hBx.cell 2
      have g7 := hBx.cell 3
      simp only [List.getElem?_toArray, List.getElem?_cons_zero, List.getElem?_cons_succ] at g4 g5 g6 g7
      by_cases hc : st = tt
      · rw [if_pos (decide_eq_true hc)] at hft
        have hS2 := Lib.hid (find_le _ hft)
        clear hft
        subst hc
        go_wp2_with fail
        refine bodyPost_ret (results_ins rfl _ _ w.heap.size 41 _ (0, 0) _ rfl (set4 hBx) Try.underlying41 rfl (by kernel_rfl)) rfl ?_
        exact ⟨⟨st, sv, sn, sx⟩, true, 0, rfl, .inr (.inr (.inr ⟨hF.out, hT.out, (by have := hT2.out; omega), rfl, (by rw [hss.out]; exact hS2.out), (fun h => by cases h)⟩)), set4b hbx.out (Nat.le_refl _)⟩
      · rw [if_neg (by simpa using hc)] at hft
        have hS2 := Lib.hid hft
        have hd : (st == tt) = false := by simpa using hc
        clear hft
        go_wp2_with fail
        go_roundg g
        case measure => omega
        case rel => exact ⟨k + 1, by omega, by go_num, hS2, hbelx⟩

set_option maxHeartbeats 4000000 in
theorem rinside_any (l : List Ev) (A : Option Addr) (n c : Nat) (tt t : Int) (w : World) (hr : Hid (Reads w w.heap.size 4 A n (evs l))) (hn : n ≤ 65536) :
    Calls Try.prog 24 #[.int .i64 tt, .int .i64 t, .slice A n c] w (InsEnd l tt t w) := by
  have hb0 := (Below.refl _ w).alloc (Nat.le_refl _) (.cells #[.int .i64 0, .int .u64 0, .int .i64 0, .int .i64 0] 41)
  have hr1 : Hid (Reads (w.alloc (.cells #[.int .i64 0, .int .u64 0, .int .i64 0, .int .i64 0] 41)) (w.alloc (.cells #[.int .i64 0, .int .u64 0, .int .i64 0, .int .i64 0] 41)).heap.size 4 A n (evs l)) := Lib.hid ((hr.out.below hb0).more hb0.size)
  have hB0 := Blk.new w 41 #[.int .i64 0, .int .u64 0, .int .i64 0, .int .i64 0]
  go_enter Try.func24, Try.ntmps24
  go_wp2_with fail
  refine (rcheck_any l A n c _ hr1 hn).mono ?_
  rintro e w1 ⟨a, er, rfl, hck, hb⟩
  have hb1 : Hid (Below w.heap.size w w1) := Lib.hid (hb0.trans (hb.mono hb0.size))
  have hB1 : Blk w1 w.heap.size 41 #[.int .i64 0, .int .u64 0, .int .i64 0, .int .i64 0] := hB0.below hb (by simp)
  have f0 := hB1.frozen 0
  have f1 := hB1.frozen 1
  have f2 := hB1.frozen 2
  have f3 := hB1.frozen 3
  have g0 := hB1.cell 0
  have g1 := hB1.cell 1
  have g2 := hB1.cell 2
  have g3 := hB1.cell 3
  simp only [List.getElem?_toArray, List.getElem?_cons_zero, List.getElem?_cons_succ] at g0 g1 g2 g3
  clear hb hB0 hb0
  rcases ckIs_cases hck with ⟨rfl, hbad⟩ | ⟨rfl, hfine⟩
  · have hB := Lib.hid hbad
    clear hck hbad
    go_wp2_with fail
    refine bodyPost_ret (results_ins rfl _ _ w.heap.size 41 _ (0, 0) _ rfl (set4 hB1) Try.underlying41 rfl (by kernel_rfl)) rfl ?_
    exact ⟨zS, false, 15, rfl, .inl ⟨hB.out, rfl, rfl, rfl⟩, set4b hb1.out (Nat.le_refl _)⟩
  have hF := Lib.hid hfine
  clear hck hfine
  by_cases htt : 0 ≤ tt ∧ tt < 64
  case neg =>
    have hT := Lib.hid htt
    go_wp2_with fail
    all_goals first
      | (exfalso; omega)
      | (refine bodyPost_ret (results_ins rfl _ _ w.heap.size 41 _ (0, 0) _ rfl (set4 hB1) Try.underlying41 rfl (by kernel_rfl)) rfl ?_
         exact ⟨zS, false, 2, rfl, .inr (.inl ⟨hF.out, hT.out, rfl, rfl, rfl⟩), set4b hb1.out (Nat.le_refl _)⟩)
  have hT := Lib.hid htt
  obtain ⟨ht0, ht1⟩ := htt
  have hr2 : Hid (Reads w1 w1.heap.size 4 A n (evs l)) := Lib.hid ((hr.out.below hb1.out).more hb1.out.size)
  have hB2 := Lib.hid hB1
  go_wp2_with fail
  refine (ropen_any l A n c t _ hr2 hn).mono ?_
  clear f0 f1 f2 f3 g0 g1 g2 g3 hr1 hr2 hB1
  rintro e w2 (⟨hnf, _, _⟩ | ⟨_, ht, rfl, hb⟩ | ⟨v, _, ht, rfl, ho, hb⟩)
  · exact absurd hF.out hnf
  · have hT2 := Lib.hid ht
    have hb2 : Hid (Below w.heap.size w w2) := hb1.out.trans (hb.mono hb1.out.size)
    have hB1 : Blk w2 w.heap.size 41 #[.int .i64 0, .int .u64 0, .int .i64 0, .int .i64 0] := hB2.out.below hb hB2.out.lt
    have f0 := hB1.frozen 0
    have f1 := hB1.frozen 1
    have f2 := hB1.frozen 2
    have f3 := hB1.frozen 3
    have g0 := hB1.cell 0
    have g1 := hB1.cell 1
    have g2 := hB1.cell 2
    have g3 := hB1.cell 3
    simp only [List.getElem?_toArray, List.getElem?_cons_zero, List.getElem?_cons_succ] at g0 g1 g2 g3
    clear hb
    go_wp2_with fail
    refine bodyPost_ret (results_ins rfl _ _ w.heap.size 41 _ (0, 0) _ rfl (set4 hB1) Try.underlying41 rfl (by kernel_rfl)) rfl ?_
    exact ⟨zS, false, 3, rfl, .inr (.inr (.inl ⟨hF.out, hT.out, hT2.out, rfl, rfl, rfl⟩)), set4b hb2.out (Nat.le_refl _)⟩
  have hT2 := Lib.hid ht
  have hb2 : Hid (Below w.heap.size w w2) := hb1.out.trans (hb.mono hb1.out.size)
  have hB3 : Hid (Blk w2 w.heap.size 41 #[.int .i64 0, .int .u64 0, .int .i64 0, .int .i64 0]) := hB2.out.below hb hB2.out.lt
  have hmn : ((secsK 1 l).filterMap (openS t)).length ≤ 65536 := by have h1 := List.length_filterMap_le (openS t) (secsK 1 l); have h2 := secsK_len 1 l; have h3 := evs_n hr.out; omega
  obtain ⟨SA, sc, rfl, hsc, hsc'⟩ := own_form ho
  have hsr0 := Lib.hid (Reads.of_own ho)
  clear ho hb ht
  generalize hSS : (secsK 1 l).filterMap (openS t) = ss at hsr0 hmn hsc
  have hss := Lib.hid hSS
  clear hSS
  have hsr : Hid (Reads w2 w2.heap.size 4 SA ss.length (secs ss)) := hsr0
  clear hsr0
  go_wp2_with fail
  go_loopg [13] ss.length (fun g i wr => ∃ (k : Nat), k + g = ss.length ∧ i = .int .i64 k ∧ Hid ((ss.take k).find? (fun s => decide (s.thread = tt)) = none) ∧ Hid (Below w2.heap.size w2 wr))
  case atStart => exact ⟨0, by omega, rfl, by unfold Hid; simp, Below.refl _ _⟩
  case round =>
    obtain ⟨k, hk, rfl, hN, hbel⟩ := hrel
    have hbw2 : Hid (Below w.heap.size w wr) := hb2.out.trans (hbel.out.mono hb2.out.size)
    have hB1 : Blk wr w.heap.size 41 #[.int .i64 0, .int .u64 0, .int .i64 0, .int .i64 0] := hB3.out.below hbel.out hB3.out.lt
    have f0 := hB1.frozen 0
    have f1 := hB1.frozen 1
    have f2 := hB1.frozen 2
    have f3 := hB1.frozen 3
    have g0 := hB1.cell 0
    have g1 := hB1.cell 1
    have g2 := hB1.cell 2
    have g3 := hB1.cell 3
    simp only [List.getElem?_toArray, List.getElem?_cons_zero, List.getElem?_cons_succ] at g0 g1 g2 g3
    cases gk with
    | zero =>
      obtain rfl : k = ss.length := by omega
      go_wp2_with fail
      refine bodyPost_ret (results_ins rfl _ _ w.heap.size 41 _ (0, 0) _ rfl (set4 hB1) Try.underlying41 rfl (by kernel_rfl)) rfl ?_
      exact ⟨zS, false, 0, rfl, .inr (.inr (.inr ⟨hF.out, hT.out, (by have := hT2.out; omega), rfl, (by rw [hss.out]; have := hN.out; rw [List.take_of_length_le (Nat.le_refl _)] at this; rw [this]; rfl), fun _ => rfl⟩)), set4b hbw2.out (Nat.le_refl _)⟩
    | succ g =>
      obtain ⟨b, o, rfl, hbB⟩ := reads_head hsr.out (by omega) (by decide)
      have hsz := Lib.hid hbel.out.size
      have hbw : b < wr.heap.size := by have := hsz.out; omega
      obtain ⟨⟨st, sv, sn, sx⟩, he0, c0, c1, c2, c3⟩ := sec_at (hsr.out.below hbel.out) (show k < ss.length by omega)
      have hft := find_take (fun s : Sec => decide (s.thread = tt)) he0 hN.out
      clear he0
      dsimp only at c0 c1 c2 c3 hft
      have k0 : (0 : Int) ≤ (k : Int) := by omega
      have k1 : (k : Int) < (ss.length : Int) := by omega
      by_cases hc : st = tt
      · rw [if_pos (decide_eq_true hc)] at hft
        have hS2 := Lib.hid (find_le _ hft)
        clear hft
        subst hc
        go_wp2_with fail
        refine bodyPost_ret (results_ins rfl _ _ w.heap.size 41 _ (0, 0) _ rfl (set4 hB1) Try.underlying41 rfl (by kernel_rfl)) rfl ?_
        exact ⟨⟨st, sv, sn, sx⟩, true, 0, rfl, .inr (.inr (.inr ⟨hF.out, hT.out, (by have := hT2.out; omega), rfl, (by rw [hss.out]; exact hS2.out), (fun h => by cases h)⟩)), set4b hbw2.out (Nat.le_refl _)⟩
      · rw [if_neg (by simpa using hc)] at hft
        have hS2 := Lib.hid hft
        have hd : (st == tt) = false := by simpa using hc
        clear hft
        go_wp2_with fail
        go_roundg g
        case measure => omega
        case rel => exact ⟨k + 1, by omega, by go_num, hS2, hbel⟩
end Go.Proofs.Ytbdnpgagbjkapaa
