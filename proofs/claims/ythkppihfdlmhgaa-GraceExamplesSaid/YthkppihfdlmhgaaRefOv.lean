/- leapfrogref21.In, due, Over walked (printed by gen_refov.py). -/
import Derived.Test.YthkppihfdlmhgaaOver
import Derived.Laws.Bits64b
namespace Go.Proofs.Ythkppihfdlmhgaa
open Go Go.RowKit
set_option linter.unusedVariables false

theorem and_one {x : Int} (h0 : 0 ≤ x) (h1 : x < 18446744073709551616) : bits BinOp.and IntKind.u64 x 1 = x % 2 := by
  obtain ⟨n, rfl⟩ := Int.eq_ofNat_of_zero_le h0
  have := bits_and_u64_nat n 1 (by omega) (by decide)
  rw [Nat.and_one_is_mod] at this
  exact this

theorem rin_any (set v : Int) (h0 : 0 ≤ set) (h1 : set < 18446744073709551616) (hv : 0 ≤ v) (w : World) :
    Calls Try.prog 39 #[.int .u64 set, .int .u64 v] w fun e w' => e = .returned (.bool (inS set v)) ∧ w = w' := by
  by_cases hlt : v < 64
  · have d1 := decide_eq_true hlt
    obtain ⟨k, rfl⟩ := Int.eq_ofNat_of_zero_le hv
    have hk : k < 64 := by omega
    have hi : inS set (k : Int) = decide (set / 2 ^ k % 2 = 1) := by
      unfold inS
      rw [d1, Bool.true_and, Int.toNat_natCast]
    rw [hi]
    clear hi
    go_enter Try.func39, Try.ntmps39
    go_wp2_with fail
    go_ret
    refine ⟨?_, rfl⟩
    dsimp only [Array.getD, Array.size, List.length, List.get, List.toArray]
    have hh := and_one (set_half h0 h1 k).1 (set_half h0 h1 k).2
    exact congrArg (fun b => Ending.returned (Value.bool b)) (by rw [hh]; rfl)
  · have d1 := decide_eq_false hlt
    rw [in_zero hlt]
    go_enter Try.func39, Try.ntmps39
    go_wp2_with fail
    go_ret
    exact ⟨rfl, rfl⟩

set_option maxRecDepth 100000 in
set_option maxHeartbeats 4000000 in
theorem rdue_any (L : List Sec) (A : Option Addr) (n c : Nat) (fr set : Int) (w : World) (hr : Hid (Reads w w.heap.size 4 A n (secs L))) (hn : n ≤ 65536) (h0 : 0 ≤ set) (h1 : set < 18446744073709551616) (hv : ∀ s ∈ L, 0 ≤ s.val) :
    Calls Try.prog 24 #[.int .i64 fr, .int .u64 set, .slice A n c] w (SecOne (L.filter (dueB fr set)) w) := by
  have hl := Lib.hid (secs_n hr.out)
  obtain ⟨i0, hi0, hz0, hz1, hz2⟩ := info_parts infoSec
  have hb0 : Hid (Below w.heap.size w w) := Below.refl _ _
  go_enter Try.func24, Try.ntmps24
  go_wp2_with fail
  go_loopg [7, 8] n (fun g v i wr => ∃ (k : Nat) (os : List Sec), k + g = n ∧ i = .int .i64 k ∧ os.length ≤ k ∧ Hid (os = (L.take k).filter (dueB fr set)) ∧ Hid (wr.ownsRow w.heap.size 43 4 v os.length (secs os)) ∧ Hid (Below w.heap.size w wr))
  case atStart => exact ⟨0, [], by omega, rfl, Nat.le_refl _, by unfold Hid; simp, World.ownsRow_nil _ _ _ _, hb0⟩
  case round =>
    obtain ⟨k, os, hk, rfl, hol, hos, hown, hbel⟩ := hrel
    cases gk with
    | zero =>
      obtain rfl : k = n := by omega
      have hz : Hid (os = L.filter (dueB fr set)) := by
        unfold Hid
        rw [hos.out, List.take_of_length_le (by rw [hl.out]; exact Nat.le_refl _)]
      go_wp2_with fail
      go_ret
      obtain ⟨A', c', rfl, _⟩ := own_form hown.out
      exact ⟨A', _, c', rfl, by rw [← hz.out], by rw [← hz.out]; exact hown.out, hbel.out⟩
    | succ g =>
      obtain ⟨b, o, rfl, hbB⟩ := reads_head hr.out (by omega) (by decide)
      have hsz := Lib.hid hbel.out.size
      have hbw : b < wr.heap.size := by have := hsz.out; omega
      obtain ⟨⟨st, sv, sn, sx⟩, he0, c0, c1, c2, c3⟩ := sec_at (hr.out.below hbel.out) (show k < n by omega)
      have hv1 : 0 ≤ sv := hv _ (List.mem_of_getElem? he0)
      have hft := filter_take (dueB fr set) he0
      clear he0
      dsimp only at c0 c1 c2 c3
      have k0 : (0 : Int) ≤ (k : Int) := by omega
      have k1 : (k : Int) < (n : Int) := by omega
      by_cases t1 : sn < fr
      · by_cases t2 : sx < 0
        · have d1 := decide_eq_true t1
          have d2 := decide_eq_true t2
          go_wp2_with fail
          refine (rin_any set sv h0 h1 hv1 _).mono ?_
          rintro e w2 ⟨rfl, rfl⟩
          cases hd : inS set sv with
          | true =>
            have hft2 := hft.trans (if_pos (by unfold dueB; dsimp only; rw [hd, d1, d2]; simp))
            have hS2 := Lib.hid (show os ++ [(⟨st, sv, sn, sx⟩ : Sec)] = (L.take (k + 1)).filter (dueB fr set) from by rw [hft2, hos.out])
            clear hft hft2 hd
            go_wp2_with (at_builtin; refine wpList_append_any _ rfl (.tmp 48) (.tmp 53) 25 rfl (w.heap.size) 43 i0 _ 4 32 Try.underlying25 hi0 hz0 hz1 hz2 rfl (by decide) u7 os.length (secs os) rfl (hown.out.alloc _) (wr.heap.size + 1) (some ⟨wr.heap.size, 0, none⟩) 1 1 (seC (⟨st, sv, sn, sx⟩ : Sec)) rfl ((reads_at wr _ (seC (⟨st, sv, sn, sx⟩ : Sec)) 1 _ rfl rfl).more (by simp)) (seC_one _) (by unfold maxLen; omega) (by omega) (by have := hsz.out; simp; omega) ?_; intro v1 w3 hown1 hg1 hat1)
            have hown3 : Hid (w3.ownsRow (w.heap.size) 43 4 v1 (os ++ [(⟨st, sv, sn, sx⟩ : Sec)]).length (secs (os ++ [(⟨st, sv, sn, sx⟩ : Sec)]))) := by
              unfold Hid
              rw [List.length_append]
              exact own_snocS hown1
            have hbel4 : Hid (Below w.heap.size w w3) := (hbel.out.alloc hsz.out _).grown hg1 (by have := hsz.out; simp; omega) (fun q hq => (hown.out.lt q hq).1)
            clear hown1 hg1 hat1
            go_wp2_with fail
            go_roundg g
            case measure => omega
            case rel => exact ⟨k + 1, os ++ [⟨st, sv, sn, sx⟩], by omega, by go_num, by simp; omega, hS2, hown3, hbel4⟩
          | false =>
            have hft2 := hft.trans (if_neg (by unfold dueB; dsimp only; rw [hd]; simp))
            have hS2 := Lib.hid (hos.out.trans hft2.symm)
            clear hft hft2 hd
            go_wp2_with fail
            go_roundg g
            case measure => omega
            case rel => exact ⟨k + 1, os, by omega, by go_num, by omega, hS2, hown, hbel⟩
        · by_cases t3 : fr ≤ sx
          · have d1 := decide_eq_true t1
            have d2 := decide_eq_false t2
            have d3 := decide_eq_true t3
            go_wp2_with fail
            refine (rin_any set sv h0 h1 hv1 _).mono ?_
            rintro e w2 ⟨rfl, rfl⟩
            cases hd : inS set sv with
            | true =>
              have hft2 := hft.trans (if_pos (by unfold dueB; dsimp only; rw [hd, d1, d2, d3]; simp))
              have hS2 := Lib.hid (show os ++ [(⟨st, sv, sn, sx⟩ : Sec)] = (L.take (k + 1)).filter (dueB fr set) from by rw [hft2, hos.out])
              clear hft hft2 hd
              go_wp2_with (at_builtin; refine wpList_append_any _ rfl (.tmp 48) (.tmp 53) 25 rfl (w.heap.size) 43 i0 _ 4 32 Try.underlying25 hi0 hz0 hz1 hz2 rfl (by decide) u7 os.length (secs os) rfl (hown.out.alloc _) (wr.heap.size + 1) (some ⟨wr.heap.size, 0, none⟩) 1 1 (seC (⟨st, sv, sn, sx⟩ : Sec)) rfl ((reads_at wr _ (seC (⟨st, sv, sn, sx⟩ : Sec)) 1 _ rfl rfl).more (by simp)) (seC_one _) (by unfold maxLen; omega) (by omega) (by have := hsz.out; simp; omega) ?_; intro v1 w3 hown1 hg1 hat1)
              have hown3 : Hid (w3.ownsRow (w.heap.size) 43 4 v1 (os ++ [(⟨st, sv, sn, sx⟩ : Sec)]).length (secs (os ++ [(⟨st, sv, sn, sx⟩ : Sec)]))) := by
                unfold Hid
                rw [List.length_append]
                exact own_snocS hown1
              have hbel4 : Hid (Below w.heap.size w w3) := (hbel.out.alloc hsz.out _).grown hg1 (by have := hsz.out; simp; omega) (fun q hq => (hown.out.lt q hq).1)
              clear hown1 hg1 hat1
              go_wp2_with fail
              go_roundg g
              case measure => omega
              case rel => exact ⟨k + 1, os ++ [⟨st, sv, sn, sx⟩], by omega, by go_num, by simp; omega, hS2, hown3, hbel4⟩
            | false =>
              have hft2 := hft.trans (if_neg (by unfold dueB; dsimp only; rw [hd]; simp))
              have hS2 := Lib.hid (hos.out.trans hft2.symm)
              clear hft hft2 hd
              go_wp2_with fail
              go_roundg g
              case measure => omega
              case rel => exact ⟨k + 1, os, by omega, by go_num, by omega, hS2, hown, hbel⟩
          · have d1 := decide_eq_true t1
            have d2 := decide_eq_false t2
            have d3 := decide_eq_false t3
            have hft2 := hft.trans (if_neg (by unfold dueB; dsimp only; rw [d1, d2, d3]; simp))
            have hS2 := Lib.hid (hos.out.trans hft2.symm)
            clear hft hft2
            go_wp2_with fail
            go_roundg g
            case measure => omega
            case rel => exact ⟨k + 1, os, by omega, by go_num, by omega, hS2, hown, hbel⟩
      · have d1 := decide_eq_false t1
        have hft2 := hft.trans (if_neg (by unfold dueB; dsimp only; rw [d1]; simp))
        have hS2 := Lib.hid (hos.out.trans hft2.symm)
        clear hft hft2
        go_wp2_with fail
        go_roundg g
        case measure => omega
        case rel => exact ⟨k + 1, os, by omega, by go_num, by omega, hS2, hown, hbel⟩
set_option maxHeartbeats 4000000 in
theorem rover_any (l : List Ev) (t s : Int) (A : Option Addr) (n c : Nat) (w : World) (hr : Hid (Reads w w.heap.size 4 A n (evs l))) (hn : n ≤ 65536) (hw : WfE l) (h0 : 0 ≤ s) (h1 : s < 18446744073709551616) :
    Calls Try.prog 10 #[.int .i64 t, .int .u64 s, .slice A n c] w (SecRes 43 (ovL l t s) (ovEr l t s) w) := by
  have hs := rsections_at l A n c w hr hn
  have hval := secL_val (q := 1) hw
  have hlen := secL_len' 1 l
  have hll := Lib.hid (evs_n hr.out)
  rw [hll.out] at hlen
  unfold ovL ovEr SecRes
  rcases errL_or l with ⟨hf, he⟩ | ⟨hf, he⟩
  · have z1 : secL 1 l = secsK 1 l := if_pos hf
    rw [if_pos hf]
    rw [he, z1] at hs
    rw [z1] at hlen hval
    clear he z1
    by_cases ht : t < 0
    · rw [if_pos ht, if_neg (fun h => h.2.1 ht)]
      have d1 := decide_eq_true ht
      go_enter Try.func10, Try.ntmps10
      go_wp2_with fail
      refine hs.mono ?_
      rintro e w1 ⟨A1, n1, c1, rfl, hn1, hown, hb⟩
      clear hn1 hown hs hr
      go_wp2_with fail
      go_ret2
      exact ⟨none, 0, 0, rfl, rfl, World.ownsRow_nil _ _ _ _, hb⟩
    · have d1 := decide_eq_false ht
      by_cases hz : s = 0
      · rw [if_neg ht, if_pos hz, if_neg (fun h => h.2.2 hz)]
        subst hz
        go_enter Try.func10, Try.ntmps10
        go_wp2_with fail
        refine hs.mono ?_
        rintro e w1 ⟨A1, n1, c1, rfl, hn1, hown, hb⟩
        clear hn1 hown hs hr
        go_wp2_with fail
        go_ret2
        exact ⟨none, 0, 0, rfl, rfl, World.ownsRow_nil _ _ _ _, hb⟩
      · rw [if_neg ht, if_neg hz, if_pos ⟨hf, ht, hz⟩]
        have d2 : (s == 0) = false := by simpa using hz
        go_enter Try.func10, Try.ntmps10
        go_wp2_with fail
        refine hs.mono ?_
        rintro e w1 ⟨A1, n1, c1, rfl, hn1, hown, hb⟩
        have r1 := (own_reads hown).1
        have b1 := Lib.hid hb
        have hn1' : n1 ≤ 65536 := by omega
        clear hn1 hown hb hs hr hlen hll
        go_wp2_with fail
        refine (rdue_any (secsK 1 l) A1 n1 c1 t s w1 r1 hn1' h0 h1 (fun x hx => (hval x hx).1)).mono ?_
        rintro e w3 ⟨A3, n3, c3, rfl, hn3, hown, hb⟩
        have b3 := below_on b1 hb
        have hown2 := Lib.hid (own_base hown (show w.heap.size ≤ w1.heap.size from b1.out.size))
        have e3 := Lib.hid hn3
        clear hn3 hown hb b1 r1
        go_wp2_with fail
        go_ret2
        exact ⟨A3, n3, c3, rfl, e3.out, hown2.out, b3.out⟩
  · have z1 : secL 1 l = [] := if_neg hf
    rw [if_neg hf, if_neg (fun h => hf h.1)]
    rw [he] at hs
    go_enter Try.func10, Try.ntmps10
    go_wp2_with fail
    refine hs.mono ?_
    rintro e w1 ⟨A1, n1, c1, rfl, hn1, hown, hb⟩
    clear hn1 hown hs hr
    go_wp2_with fail
    go_ret2
    exact ⟨none, 0, 0, rfl, rfl, World.ownsRow_nil _ _ _ _, hb⟩
end Go.Proofs.Ythkppihfdlmhgaa
