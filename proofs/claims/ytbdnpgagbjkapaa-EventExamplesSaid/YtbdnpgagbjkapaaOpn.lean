/- Open and Inside, the program's and the reference's, walked (printed by gen_open.py). -/
import Derived.Test.YtbdnpgagbjkapaaLookP
import Derived.Test.YtbdnpgagbjkapaaPairs
namespace Go.Proofs.Ytbdnpgagbjkapaa
open Go Go.RowKit
set_option linter.unusedVariables false

set_option maxHeartbeats 4000000 in
theorem open_any (l : List Ev) (A : Option Addr) (n c : Nat) (t : Int) (w : World) (hr : Hid (Reads w w.heap.size 4 A n (evs l))) (hn : n ≤ 65536) :
    Calls Try.prog 21 #[.int .i64 t, .slice A n c] w (LookEnd 41 (secs ((secsK 1 l).filterMap (openS t))) ((secsK 1 l).filterMap (openS t)).length l t w) := by
  have hl := Lib.hid (evs_n hr.out)
  obtain ⟨i0, hi0, hz0, hz1, hz2⟩ := info_parts infoSec
  go_enter Try.func21, Try.ntmps21
  go_wp2_with fail
  refine (sections_any l A n c _ hr hn).mono ?_
  rintro e w1 (⟨v1, hf, rfl, ho, hb⟩ | ⟨hf, rfl, hb⟩)
  case inr =>
    have hF := Lib.hid hf
    have hB := Lib.hid hb
    clear hf hb
    go_wp2_with fail
    go_ret2
    exact .inl ⟨hF.out, rfl, hB.out⟩
  have hF := Lib.hid hf
  have hb1 := Lib.hid hb
  clear hf hb
  obtain ⟨SA, sc, rfl, hsc, hsc'⟩ := own_form ho
  have hsr0 := Lib.hid (Reads.of_own ho)
  have hmn : (secsK 1 l).length ≤ n := by rw [← hl.out]; exact secsK_len 1 l
  have hw1 : Hid (w.heap.size ≤ w1.heap.size) := hb1.out.size
  clear ho
  generalize hSS : secsK 1 l = ss at hsr0 hmn hsc
  have hss := Lib.hid hSS
  clear hSS
  have hsr : Hid (Reads w1 w1.heap.size 4 SA ss.length (secs ss)) := hsr0
  clear hsr0
  by_cases ht : t < -1
  · have hT := Lib.hid ht
    go_wp2_with fail
    go_ret2
    exact .inr (.inl ⟨hF.out, hT.out, rfl, hb1.out⟩)
  have hT : Hid (¬ t < -1) := Lib.hid ht
  go_wp2_with fail
  go_loopg [8, 23] ss.length (fun g v i wr => ∃ (k : Nat) (os : List Sec), k + g = ss.length ∧ i = .int .i64 k ∧ os.length ≤ k ∧ Hid (os = (ss.take k).filterMap (openS t)) ∧ Hid (wr.ownsRow w1.heap.size 41 4 v os.length (secs os)) ∧ Hid (Below w1.heap.size w1 wr))
  case atStart => exact ⟨0, [], by omega, rfl, Nat.le_refl _, by unfold Hid; simp, World.ownsRow_nil _ _ _ _, Below.refl _ _⟩
  case round =>
    obtain ⟨k, os, hk, rfl, hol, hos, hown, hbel⟩ := hrel
    cases gk with
    | zero =>
      obtain rfl : k = ss.length := by omega
      have hz : Hid (os = ss.filterMap (openS t)) := by
        unfold Hid
        rw [hos.out, List.take_of_length_le (Nat.le_refl _)]
      go_wp2_with fail
      go_ret2
      exact .inr (.inr ⟨_, hF.out, (by have := hT.out; omega), rfl, by rw [hss.out, ← hz.out]; exact own_base hown.out hw1.out, hb1.out.trans (hbel.out.mono hw1.out)⟩)
    | succ g =>
      obtain ⟨b, o, rfl, hbB⟩ := reads_head hsr.out (by omega) (by decide)
      have hsz := Lib.hid hbel.out.size
      have hbw : b < wr.heap.size := by have := hsz.out; omega
      obtain ⟨⟨st, sv, sn, sx⟩, he0, c0, c1, c2, c3⟩ := sec_at (hsr.out.below hbel.out) (show k < ss.length by omega)
      have hft := openS_take (t := t) he0
      clear he0
      dsimp only at c0 c1 c2 c3
      have k0 : (0 : Int) ≤ (k : Int) := by omega
      have k1 : (k : Int) < (ss.length : Int) := by omega
      have hbelx : Hid (Below w1.heap.size w1 (wr.alloc (.cells #[.int .i64 st, .int .u64 sv, .int .i64 sn, .int .i64 sx] 41))) := hbel.out.alloc hsz.out _
      have hX := Blk.new wr 41 #[.int .i64 st, .int .u64 sv, .int .i64 sn, .int .i64 sx]
      have x0 := hX.cell 0
      have x1 := hX.cell 1
      have x2 := hX.cell 2
      have x3 := hX.cell 3
      have xf := hX.frozen 3
      simp only [List.getElem?_toArray, List.getElem?_cons_zero, List.getElem?_cons_succ] at x0 x1 x2 x3
      by_cases hc : sn ≤ t ∧ (sx < 0 ∨ t < sx)
      · have hS2 := Lib.hid (show os ++ [(⟨st, sv, sn, -1⟩ : Sec)] = (ss.take (k + 1)).filterMap (openS t) from by rw [hft, hos.out, openS, if_pos hc]; rfl)
        clear hft
        obtain ⟨hc1, hc2⟩ := hc
        have hd := decide_eq_true hc1
        have hX1 := hX.set_ 3 (.int .i64 (-1))
        clear hX hX1
        by_cases hx0 : sx < 0
        · clear hc2
          go_wp2_with (at_builtin; refine wpList_append_any _ rfl (.tmp 43) (.tmp 45) 28 rfl (w1.heap.size) 41 i0 _ 4 32 Try.underlying28 hi0 hz0 hz1 hz2 rfl (by decide) u8 os.length (secs os) rfl ((hown.out.alloc _).alloc _) (wr.heap.size + 2) (some ⟨wr.heap.size + 1, 0, none⟩) 1 1 (seC (⟨st, sv, sn, -1⟩ : Sec)) rfl ((reads_at (wr.alloc _) _ (seC (⟨st, sv, sn, -1⟩ : Sec)) 1 _ (by simp) rfl).more (by simp)) (seC_one _) (by unfold maxLen; omega) (by omega) (by have := hsz.out; simp; omega) ?_; intro v1 w3 hown1 hg1 hat1)
          have hown2 : Hid (w3.ownsRow (w1.heap.size) 41 4 v1 (os ++ [(⟨st, sv, sn, -1⟩ : Sec)]).length (secs (os ++ [(⟨st, sv, sn, -1⟩ : Sec)]))) := by
            unfold Hid
            rw [List.length_append]
            exact own_snocS hown1
          have hbel4 : Hid (Below w1.heap.size w1 w3) := ((hbel.out.alloc hsz.out _).alloc (by have := hsz.out; simp; omega) _).grown hg1 (by have := hsz.out; simp; omega) (fun q hq => (hown.out.lt q hq).1)
          clear hown1 hg1 hat1
          go_wp2_with fail
          go_roundg g
          case measure => omega
          case rel => exact ⟨k + 1, os ++ [⟨st, sv, sn, -1⟩], by omega, by go_num, by simp; omega, hS2, hown2, hbel4⟩
        · have hc3 : t < sx := by omega
          clear hc2
          go_wp2_with (at_builtin; refine wpList_append_any _ rfl (.tmp 43) (.tmp 45) 28 rfl (w1.heap.size) 41 i0 _ 4 32 Try.underlying28 hi0 hz0 hz1 hz2 rfl (by decide) u8 os.length (secs os) rfl ((hown.out.alloc _).alloc _) (wr.heap.size + 2) (some ⟨wr.heap.size + 1, 0, none⟩) 1 1 (seC (⟨st, sv, sn, -1⟩ : Sec)) rfl ((reads_at (wr.alloc _) _ (seC (⟨st, sv, sn, -1⟩ : Sec)) 1 _ (by simp) rfl).more (by simp)) (seC_one _) (by unfold maxLen; omega) (by omega) (by have := hsz.out; simp; omega) ?_; intro v1 w3 hown1 hg1 hat1)
          have hown2 : Hid (w3.ownsRow (w1.heap.size) 41 4 v1 (os ++ [(⟨st, sv, sn, -1⟩ : Sec)]).length (secs (os ++ [(⟨st, sv, sn, -1⟩ : Sec)]))) := by
            unfold Hid
            rw [List.length_append]
            exact own_snocS hown1
          have hbel4 : Hid (Below w1.heap.size w1 w3) := ((hbel.out.alloc hsz.out _).alloc (by have := hsz.out; simp; omega) _).grown hg1 (by have := hsz.out; simp; omega) (fun q hq => (hown.out.lt q hq).1)
          clear hown1 hg1 hat1
          go_wp2_with fail
          go_roundg g
          case measure => omega
          case rel => exact ⟨k + 1, os ++ [⟨st, sv, sn, -1⟩], by omega, by go_num, by simp; omega, hS2, hown2, hbel4⟩
      · have hS2 := Lib.hid (show os = (ss.take (k + 1)).filterMap (openS t) from by rw [hft, hos.out, openS, if_neg hc]; simp)
        clear hft
        go_wp2_with fail
        all_goals first
          | (exfalso; omega)
          | (go_roundg g
             case measure => omega
             case rel => exact ⟨k + 1, os, by omega, by go_num, by omega, hS2, hown.out.alloc _, hbelx⟩)

set_option maxHeartbeats 4000000 in
theorem ropen_any (l : List Ev) (A : Option Addr) (n c : Nat) (t : Int) (w : World) (hr : Hid (Reads w w.heap.size 4 A n (evs l))) (hn : n ≤ 65536) :
    Calls Try.prog 23 #[.int .i64 t, .slice A n c] w (LookEnd 41 (secs ((secsK 1 l).filterMap (openS t))) ((secsK 1 l).filterMap (openS t)).length l t w) := by
  have hl := Lib.hid (evs_n hr.out)
  obtain ⟨i0, hi0, hz0, hz1, hz2⟩ := info_parts infoSec
  go_enter Try.func23, Try.ntmps23
  go_wp2_with fail
  refine (rsections_any l A n c _ hr hn).mono ?_
  rintro e w1 (⟨v1, hf, rfl, ho, hb⟩ | ⟨hf, rfl, hb⟩)
  case inr =>
    have hF := Lib.hid hf
    have hB := Lib.hid hb
    clear hf hb
    go_wp2_with fail
    go_ret2
    exact .inl ⟨hF.out, rfl, hB.out⟩
  have hF := Lib.hid hf
  have hb1 := Lib.hid hb
  clear hf hb
  obtain ⟨SA, sc, rfl, hsc, hsc'⟩ := own_form ho
  have hsr0 := Lib.hid (Reads.of_own ho)
  have hmn : (secsK 1 l).length ≤ n := by rw [← hl.out]; exact secsK_len 1 l
  have hw1 : Hid (w.heap.size ≤ w1.heap.size) := hb1.out.size
  clear ho
  generalize hSS : secsK 1 l = ss at hsr0 hmn hsc
  have hss := Lib.hid hSS
  clear hSS
  have hsr : Hid (Reads w1 w1.heap.size 4 SA ss.length (secs ss)) := hsr0
  clear hsr0
  by_cases ht : t < -1
  · have hT := Lib.hid ht
    go_wp2_with fail
    go_ret2
    exact .inr (.inl ⟨hF.out, hT.out, rfl, hb1.out⟩)
  have hT : Hid (¬ t < -1) := Lib.hid ht
  go_wp2_with fail
  go_loopg [8, 9] ss.length (fun g v i wr => ∃ (k : Nat) (os : List Sec), k + g = ss.length ∧ i = .int .i64 k ∧ os.length ≤ k ∧ Hid (os = (ss.take k).filterMap (openS t)) ∧ Hid (wr.ownsRow w1.heap.size 41 4 v os.length (secs os)) ∧ Hid (Below w1.heap.size w1 wr))
  case atStart => exact ⟨0, [], by omega, rfl, Nat.le_refl _, by unfold Hid; simp, World.ownsRow_nil _ _ _ _, Below.refl _ _⟩
  case round =>
    obtain ⟨k, os, hk, rfl, hol, hos, hown, hbel⟩ := hrel
    cases gk with
    | zero =>
      obtain rfl : k = ss.length := by omega
      have hz : Hid (os = ss.filterMap (openS t)) := by
        unfold Hid
        rw [hos.out, List.take_of_length_le (Nat.le_refl _)]
      go_wp2_with fail
      go_ret2
      exact .inr (.inr ⟨_, hF.out, (by have := hT.out; omega), rfl, by rw [hss.out, ← hz.out]; exact own_base hown.out hw1.out, hb1.out.trans (hbel.out.mono hw1.out)⟩)
    | succ g =>
      obtain ⟨b, o, rfl, hbB⟩ := reads_head hsr.out (by omega) (by decide)
      have hsz := Lib.hid hbel.out.size
      have hbw : b < wr.heap.size := by have := hsz.out; omega
      obtain ⟨⟨st, sv, sn, sx⟩, he0, c0, c1, c2, c3⟩ := sec_at (hsr.out.below hbel.out) (show k < ss.length by omega)
      have hft := openS_take (t := t) he0
      clear he0
      dsimp only at c0 c1 c2 c3
      have k0 : (0 : Int) ≤ (k : Int) := by omega
      have k1 : (k : Int) < (ss.length : Int) := by omega
      have hbelx : Hid (Below w1.heap.size w1 (wr.alloc (.cells #[.int .i64 st, .int .u64 sv, .int .i64 sn, .int .i64 sx] 41))) := hbel.out.alloc hsz.out _
      have hX := Blk.new wr 41 #[.int .i64 st, .int .u64 sv, .int .i64 sn, .int .i64 sx]
      have x0 := hX.cell 0
      have x1 := hX.cell 1
      have x2 := hX.cell 2
      have x3 := hX.cell 3
      have xf := hX.frozen 3
      simp only [List.getElem?_toArray, List.getElem?_cons_zero, List.getElem?_cons_succ] at x0 x1 x2 x3
      by_cases hc : sn ≤ t ∧ (sx < 0 ∨ t < sx)
      · have hS2 := Lib.hid (show os ++ [(⟨st, sv, sn, -1⟩ : Sec)] = (ss.take (k + 1)).filterMap (openS t) from by rw [hft, hos.out, openS, if_pos hc]; rfl)
        clear hft
        obtain ⟨hc1, hc2⟩ := hc
        have hd := decide_eq_true hc1
        have hX1 := hX.set_ 3 (.int .i64 (-1))
        clear hX hX1
        by_cases hx0 : sx < 0
        · clear hc2
          go_wp2_with (at_builtin; refine wpList_append_any _ rfl (.tmp 47) (.tmp 49) 28 rfl (w1.heap.size) 41 i0 _ 4 32 Try.underlying28 hi0 hz0 hz1 hz2 rfl (by decide) u8 os.length (secs os) rfl ((hown.out.alloc _).alloc _) (wr.heap.size + 2) (some ⟨wr.heap.size + 1, 0, none⟩) 1 1 (seC (⟨st, sv, sn, -1⟩ : Sec)) rfl ((reads_at (wr.alloc _) _ (seC (⟨st, sv, sn, -1⟩ : Sec)) 1 _ (by simp) rfl).more (by simp)) (seC_one _) (by unfold maxLen; omega) (by omega) (by have := hsz.out; simp; omega) ?_; intro v1 w3 hown1 hg1 hat1)
          have hown2 : Hid (w3.ownsRow (w1.heap.size) 41 4 v1 (os ++ [(⟨st, sv, sn, -1⟩ : Sec)]).length (secs (os ++ [(⟨st, sv, sn, -1⟩ : Sec)]))) := by
            unfold Hid
            rw [List.length_append]
            exact own_snocS hown1
          have hbel4 : Hid (Below w1.heap.size w1 w3) := ((hbel.out.alloc hsz.out _).alloc (by have := hsz.out; simp; omega) _).grown hg1 (by have := hsz.out; simp; omega) (fun q hq => (hown.out.lt q hq).1)
          clear hown1 hg1 hat1
          go_wp2_with fail
          go_roundg g
          case measure => omega
          case rel => exact ⟨k + 1, os ++ [⟨st, sv, sn, -1⟩], by omega, by go_num, by simp; omega, hS2, hown2, hbel4⟩
        · have hc3 : t < sx := by omega
          clear hc2
          go_wp2_with (at_builtin; refine wpList_append_any _ rfl (.tmp 47) (.tmp 49) 28 rfl (w1.heap.size) 41 i0 _ 4 32 Try.underlying28 hi0 hz0 hz1 hz2 rfl (by decide) u8 os.length (secs os) rfl ((hown.out.alloc _).alloc _) (wr.heap.size + 2) (some ⟨wr.heap.size + 1, 0, none⟩) 1 1 (seC (⟨st, sv, sn, -1⟩ : Sec)) rfl ((reads_at (wr.alloc _) _ (seC (⟨st, sv, sn, -1⟩ : Sec)) 1 _ (by simp) rfl).more (by simp)) (seC_one _) (by unfold maxLen; omega) (by omega) (by have := hsz.out; simp; omega) ?_; intro v1 w3 hown1 hg1 hat1)
          have hown2 : Hid (w3.ownsRow (w1.heap.size) 41 4 v1 (os ++ [(⟨st, sv, sn, -1⟩ : Sec)]).length (secs (os ++ [(⟨st, sv, sn, -1⟩ : Sec)]))) := by
            unfold Hid
            rw [List.length_append]
            exact own_snocS hown1
          have hbel4 : Hid (Below w1.heap.size w1 w3) := ((hbel.out.alloc hsz.out _).alloc (by have := hsz.out; simp; omega) _).grown hg1 (by have := hsz.out; simp; omega) (fun q hq => (hown.out.lt q hq).1)
          clear hown1 hg1 hat1
          go_wp2_with fail
          go_roundg g
          case measure => omega
          case rel => exact ⟨k + 1, os ++ [⟨st, sv, sn, -1⟩], by omega, by go_num, by simp; omega, hS2, hown2, hbel4⟩
      · have hS2 := Lib.hid (show os = (ss.take (k + 1)).filterMap (openS t) from by rw [hft, hos.out, openS, if_neg hc]; simp)
        clear hft
        go_wp2_with fail
        all_goals first
          | (exfalso; omega)
          | (go_roundg g
             case measure => omega
             case rel => exact ⟨k + 1, os, by omega, by go_num, by omega, hS2, hown.out.alloc _, hbelx⟩)
end Go.Proofs.Ytbdnpgagbjkapaa
