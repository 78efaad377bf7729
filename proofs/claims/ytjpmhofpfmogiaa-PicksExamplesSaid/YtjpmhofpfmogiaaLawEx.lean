/- The law PicksExamples, walked (printed by gen_lawex.py). -/
import Derived.Test.YtjpmhofpfmogiaaLawMatches
import Derived.Test.YtjpmhofpfmogiaaLawExpands
import Derived.Test.YtjpmhofpfmogiaaLawMakes
import Derived.Deep.RegionHeld3
namespace Go.Proofs.Ytjpmhofpfmogiaa
open Go Go.RowKit
set_option linter.unusedVariables false

/-- A run of equal picks that do not choose a thread. -/
theorem gapR_rep (a x : Int) (h : x ≠ a) : ∀ n : Nat, gapR a (List.replicate n x) = (n, n)
  | 0 => rfl
  | n + 1 => by
    rw [show List.replicate (n + 1) x = List.replicate n x ++ [x] from List.replicate_succ', gapR_ne a _ x h, gapR_rep a x h n]
    apply Prod.ext
    · show max n (n + 1) = n + 1
      omega
    · rfl
theorem made_zeros (n : Nat) : madeCells (Value.int .i64 0).cells n = (ints (List.replicate n 0)).toArray := by
  apply Array.toList_inj.1
  rw [show (Value.int IntKind.i64 0).cells = #[.int .i64 0] from rfl, toList_madeCells_one]
  unfold ints
  rw [List.map_replicate]
theorem zeros_any (n : Nat) (hn : n ≤ 65536) : ∃ zs : List Int, madeCells (Value.int .i64 0).cells (n + 1) = (ints zs).toArray ∧ zs.length = n + 1 ∧ (zs.drop 1).length = n ∧ gaN 3 1 (zs.drop 1) = n := by
  refine ⟨List.replicate (n + 1) 0, made_zeros _, List.length_replicate, by rw [List.length_drop, List.length_replicate]; omega, ?_⟩
  rw [List.drop_replicate, show n + 1 - 1 = n by omega]
  unfold gaN
  rw [if_pos (by unfold chk; rw [List.length_replicate, if_neg (by omega), if_neg (by omega)])]
  unfold chl
  rw [List.map_replicate, show (0 : Int) % 3 = 0 from rfl, gapR_rep 1 0 (by decide) n]
theorem zeros_ex : ∃ zs : List Int, madeCells (Value.int .i64 0).cells 65537 = (ints zs).toArray ∧ zs.length = 65537 ∧ (zs.drop 1).length = 65536 ∧ gaN 3 1 (zs.drop 1) = 65536 := zeros_any 65536 (Nat.le_refl _)
theorem reads_tail {w : World} {g m : Nat} {t : TypeId} {cs : List Value} (h : Blk w g t cs.toArray) (hm : cs.length = m + 1) : Reads w w.heap.size 1 (some ⟨g, 1, none⟩) m (cs.drop 1) := by
  refine ⟨by rw [List.length_drop]; omega, fun _ => ⟨_, rfl, h.lt, fun j u hu => ?_⟩⟩
  rw [Addr.add_lit, h.cell]
  rw [List.getElem?_drop] at hu
  simpa using hu
theorem ints_drop (l : List Int) (k : Nat) : (ints l).drop k = ints (l.drop k) := by
  unfold ints
  rw [List.map_drop]
theorem ex_k1 : chk 3 0 ((65537 : Nat) : Int) = 5 := by decide
theorem ex_k2 : chk 3 0 ((65536 : Nat) : Int) = 0 := by decide
theorem ex_k3 : chk 3 1 ((65536 : Nat) : Int) = 0 := by decide
theorem ex_s1 : siz 3 65536 = 0 := by decide
theorem ex_s2 : siz 3 65537 = 5 := by decide
theorem ex_r1 : (rnL 3 65536).length = 65536 := by unfold rnL; rw [if_pos ex_s1, List.length_map, List.length_range]; rfl
theorem ex_m1 : mxL 1 3 65537 = [] := by unfold mxL; rw [if_neg (by rw [ex_s2]; decide)]
theorem ex_e1 : exErr [1, 65536] = 0 := by decide
theorem ex_e2 : exErr [1, 65536, 0, 1, 2, -1] = 2 := by decide
theorem ex_e3 : exErr [1, 4611686018427387904, 2, 4611686018427387904, 3, 4611686018427387904] = 5 := by decide
theorem ex_x1 : (exL [1, 65536]).length = 65536 := by
  unfold exL
  rw [if_pos ex_e1]
  have h := expd_len [1, 65536] (by decide)
  have h2 : tot [1, 65536] = 65536 := by decide
  omega
theorem ex_x2 : exL [1, 65536, 0, 1, 2, -1] = [] := by unfold exL; rw [if_neg (by rw [ex_e2]; decide)]
theorem ex_x3 : exL [1, 4611686018427387904, 2, 4611686018427387904, 3, 4611686018427387904] = [] := by unfold exL; rw [if_neg (by rw [ex_e3]; decide)]

set_option maxRecDepth 100000 in
set_option maxHeartbeats 16000000 in
theorem examples_law (w : World) :
    Calls Try.prog 9 #[] w fun e w' => e = .returned (.bool true) ∧ Below w.heap.size w w' := by
  go_enter Try.func9, Try.ntmps9
  have hb0 : Hid (Below w.heap.size w w) := Below.refl _ _
  go_wp2_with fail
  have hb : Below w.heap.size w (w.alloc (.cells #[.int .i64 (-9223372036854775808), .int .i64 (-1), .int .i64 0, .int .i64 1, .int .i64 2, .int .i64 3, .int .i64 63, .int .i64 64, .int .i64 65, .int .i64 9223372036854775807] 3)) := (Below.refl _ _).alloc (Nat.le_refl _) _
  have hb1 := below_on hb0 hb
  have e1 : Hid (Reads (w.alloc (.cells #[.int .i64 (-9223372036854775808), .int .i64 (-1), .int .i64 0, .int .i64 1, .int .i64 2, .int .i64 3, .int .i64 63, .int .i64 64, .int .i64 65, .int .i64 9223372036854775807] 3)) (w.alloc (.cells #[.int .i64 (-9223372036854775808), .int .i64 (-1), .int .i64 0, .int .i64 1, .int .i64 2, .int .i64 3, .int .i64 63, .int .i64 64, .int .i64 65, .int .i64 9223372036854775807] 3)).heap.size 1 (some ⟨w.heap.size, 0, none⟩) 10 (ints ([-9223372036854775808, -1, 0, 1, 2, 3, 63, 64, 65, 9223372036854775807] : List Int))) := reads_at w 3 (ints ([-9223372036854775808, -1, 0, 1, 2, 3, 63, 64, 65, 9223372036854775807] : List Int)) 10 _ (by simp) rfl
  clear hb0 hb
  go_wp2_with fail
  have hb : Below (w.alloc (.cells #[.int .i64 (-9223372036854775808), .int .i64 (-1), .int .i64 0, .int .i64 1, .int .i64 2, .int .i64 3, .int .i64 63, .int .i64 64, .int .i64 65, .int .i64 9223372036854775807] 3)).heap.size (w.alloc (.cells #[.int .i64 (-9223372036854775808), .int .i64 (-1), .int .i64 0, .int .i64 1, .int .i64 2, .int .i64 3, .int .i64 63, .int .i64 64, .int .i64 65, .int .i64 9223372036854775807] 3)) ((w.alloc (.cells #[.int .i64 (-9223372036854775808), .int .i64 (-1), .int .i64 0, .int .i64 1, .int .i64 2, .int .i64 3, .int .i64 63, .int .i64 64, .int .i64 65, .int .i64 9223372036854775807] 3)).alloc (.cells #[.int .i64 0, .int .i64 3, .int .i64 (-1), .int .i64 4, .int .i64 9223372036854775807, .int .i64 (-9223372036854775808), .int .i64 7, .int .i64 7, .int .i64 7] 3)) := (Below.refl _ _).alloc (Nat.le_refl _) _
  have hb2 := below_on hb1 hb
  have e2 := reads_on e1 hb
  have s2 : Hid (Reads ((w.alloc (.cells #[.int .i64 (-9223372036854775808), .int .i64 (-1), .int .i64 0, .int .i64 1, .int .i64 2, .int .i64 3, .int .i64 63, .int .i64 64, .int .i64 65, .int .i64 9223372036854775807] 3)).alloc (.cells #[.int .i64 0, .int .i64 3, .int .i64 (-1), .int .i64 4, .int .i64 9223372036854775807, .int .i64 (-9223372036854775808), .int .i64 7, .int .i64 7, .int .i64 7] 3)) ((w.alloc (.cells #[.int .i64 (-9223372036854775808), .int .i64 (-1), .int .i64 0, .int .i64 1, .int .i64 2, .int .i64 3, .int .i64 63, .int .i64 64, .int .i64 65, .int .i64 9223372036854775807] 3)).alloc (.cells #[.int .i64 0, .int .i64 3, .int .i64 (-1), .int .i64 4, .int .i64 9223372036854775807, .int .i64 (-9223372036854775808), .int .i64 7, .int .i64 7, .int .i64 7] 3)).heap.size 1 (some ⟨w.heap.size + 1, 0, none⟩) 9 (ints ([0, 3, -1, 4, 9223372036854775807, -9223372036854775808, 7, 7, 7] : List Int))) := reads_at (w.alloc (.cells #[.int .i64 (-9223372036854775808), .int .i64 (-1), .int .i64 0, .int .i64 1, .int .i64 2, .int .i64 3, .int .i64 63, .int .i64 64, .int .i64 65, .int .i64 9223372036854775807] 3)) 3 (ints ([0, 3, -1, 4, 9223372036854775807, -9223372036854775808, 7, 7, 7] : List Int)) 9 _ (by simp) rfl
  clear hb1 hb e1
  go_wp2_with fail
  obtain ⟨w2, hw2⟩ : ∃ w2, ((w.alloc (.cells #[.int .i64 (-9223372036854775808), .int .i64 (-1), .int .i64 0, .int .i64 1, .int .i64 2, .int .i64 3, .int .i64 63, .int .i64 64, .int .i64 65, .int .i64 9223372036854775807] 3)).alloc (.cells #[.int .i64 0, .int .i64 3, .int .i64 (-1), .int .i64 4, .int .i64 9223372036854775807, .int .i64 (-9223372036854775808), .int .i64 7, .int .i64 7, .int .i64 7] 3)) = w2 := ⟨_, rfl⟩
  rw [hw2] at e2 s2 hb2 ⊢
  clear hw2
  have hstart := hb2
  clear hb2
  go_loopg [3] 10 (fun g i wr => ∃ i0 : Nat, i0 + g = 10 ∧ i = .int .i64 i0 ∧ Hid (Below w2.heap.size w2 wr))
  case atStart => exact ⟨0, by omega, rfl, Below.refl _ _⟩
  case round =>
    obtain ⟨i, hi, rfl, hbel⟩ := hrel
    cases gk with
    | zero =>
      obtain rfl : i = 10 := by omega
      obtain ⟨zs, hz, hzl, hZl, hZg⟩ := zeros_ex
      obtain ⟨Z, hZ⟩ : ∃ Z, zs.drop 1 = Z := ⟨_, rfl⟩
      have hdr : (ints zs).drop 1 = ints Z := by rw [ints_drop, hZ]
      rw [hZ] at hZl hZg
      clear hZ
      have hL1 : Hid (chL 3 zs = []) := by unfold Hid chL; rw [hzl, if_neg (by rw [ex_k1]; decide)]
      have hL2 : Hid ((chL 3 Z).length = 65536) := by unfold Hid chL; rw [hZl, if_pos ex_k2, chl_len, hZl]
      have hG := Lib.hid hZg
      obtain ⟨i0, hi0, hz0, hz1, hz2⟩ := info_parts infoInt
      have hmk : ∀ W : World, (Instr.makeSlice 22 (.int .i64 65537) (.int .i64 65537)).run Try.prog W = .ok (.slice (some ⟨W.heap.size, 0, none⟩) 65537 65537) (W.alloc (.cells (ints zs).toArray 3)) := by
        intro W
        have h := run_make (P := Try.prog) W 22 3 i0 (.int .i64 0) Try.underlying22 hi0 hz0 .i64 .i64 65537 65537 (by omega) (by omega) (by rw [hz2]; omega) (by omega)
        rw [h, hz1, Nat.mul_one]
        have e : madeCells (Value.int .i64 0).cells ((65537 : Int)).toNat = (ints zs).toArray := hz
        rw [e]
        rfl
      have hil : (ints zs).length = 65536 + 1 := by rw [ints_len, hzl]
      have hbk := Blk.new wr 3 (ints zs).toArray
      have hm0 : Hid (Reads (wr.alloc (.cells (ints zs).toArray 3)) (wr.alloc (.cells (ints zs).toArray 3)).heap.size 1 (some ⟨wr.heap.size, 0, none⟩) 65537 (ints zs)) := by
        have h := Reads.of_blk hbk 65537 (by rw [hil]; exact Nat.le_refl _)
        rwa [List.take_of_length_le (by rw [hil]; exact Nat.le_refl _)] at h
      have ht0 : Hid (Reads (wr.alloc (.cells (ints zs).toArray 3)) (wr.alloc (.cells (ints zs).toArray 3)).heap.size 1 (some ⟨wr.heap.size, 1, none⟩) 65536 (ints Z)) := by
        have h := reads_tail hbk hil
        rw [hdr] at h
        exact h
      have hb21 := below_on hbel (show Below wr.heap.size wr (wr.alloc (.cells (ints zs).toArray 3)) from (Below.refl _ _).alloc (Nat.le_refl _) _)
      clear hbel hz hzl hZl hZg hdr hil hbk
      go_wp2_with fail
      clear hmk
      obtain ⟨w21, hw21⟩ : ∃ w21, wr.alloc (.cells (ints zs).toArray 3) = w21 := ⟨_, rfl⟩
      rw [hw21] at hm0 ht0 hb21 ⊢
      clear hw21
      refine (chosen_res 3 zs (some ⟨wr.heap.size, 0, none⟩) 65537 65537 w21 hm0).mono ?_
      rintro e w22 ⟨A1, c1, hE, ho, hb⟩
      rw [hL1.out, ex_k1] at hE
      dsimp only [List.length_nil] at hE
      subst hE
      clear ho
      have hb22 := below_on hb21 hb
      have z22 := reads_on ht0 hb
      clear hb21 hb hm0 ht0
      go_wp2_with fail
      refine (chosen_res 3 Z (some ⟨wr.heap.size, 1, none⟩) 65536 65536 w22 z22).mono ?_
      rintro e w23 ⟨A2, c2, hE, ho, hb⟩
      rw [hL2.out, ex_k2] at hE
      subst hE
      clear ho
      have hb23 := below_on hb22 hb
      have z23 := reads_on z22 hb
      clear hb22 hb z22
      go_wp2_with fail
      refine (gap_res 3 1 Z (some ⟨wr.heap.size, 1, none⟩) 65536 65536 w23 z23).mono ?_
      rintro e w24 ⟨hE, hb⟩
      rw [hG.out, ex_k3] at hE
      subst hE
      have hb24 := below_on hb23 hb
      clear hb23 hb z23
      go_wp2_with fail
      refine (round_res 3 65536 w24).mono ?_
      rintro e w25 ⟨A3, c3, hE, ho, hb⟩
      rw [ex_r1, ex_s1] at hE
      subst hE
      clear ho
      have hb25 := below_on hb24 hb
      clear hb24 hb
      go_wp2_with fail
      refine (mixed_res 1 3 65537 w25).mono ?_
      rintro e w26 ⟨A4, c4, hE, ho, hb⟩
      rw [ex_m1, ex_s2] at hE
      dsimp only [List.length_nil] at hE
      subst hE
      clear ho
      have hb26 := below_on hb25 hb
      clear hb25 hb
      go_wp2_with fail
      have hb : Below w26.heap.size w26 (w26.alloc (.cells #[.int .i64 1, .int .i64 65536] 3)) := (Below.refl _ _).alloc (Nat.le_refl _) _
      have hb27 := below_on hb26 hb
      have x27 : Hid (Reads (w26.alloc (.cells #[.int .i64 1, .int .i64 65536] 3)) (w26.alloc (.cells #[.int .i64 1, .int .i64 65536] 3)).heap.size 1 (some ⟨w26.heap.size, 0, none⟩) 2 (ints ([1, 65536] : List Int))) := reads_at w26 3 (ints ([1, 65536] : List Int)) 2 _ (by simp) rfl
      clear hb26 hb
      refine (expand_res ([1, 65536] : List Int) (some ⟨w26.heap.size, 0, none⟩) 2 2 (w26.alloc (.cells #[.int .i64 1, .int .i64 65536] 3)) x27 (by omega)).mono ?_
      rintro e w28 ⟨B0, d0, hE, ho, hb⟩
      rw [ex_x1, ex_e1] at hE
      subst hE
      clear ho
      have hb28 := below_on hb27 hb
      clear hb27 hb x27
      go_wp2_with fail
      have hb : Below w28.heap.size w28 (w28.alloc (.cells #[.int .i64 1, .int .i64 65536, .int .i64 0, .int .i64 1, .int .i64 2, .int .i64 (-1)] 3)) := (Below.refl _ _).alloc (Nat.le_refl _) _
      have hb29 := below_on hb28 hb
      have x29 : Hid (Reads (w28.alloc (.cells #[.int .i64 1, .int .i64 65536, .int .i64 0, .int .i64 1, .int .i64 2, .int .i64 (-1)] 3)) (w28.alloc (.cells #[.int .i64 1, .int .i64 65536, .int .i64 0, .int .i64 1, .int .i64 2, .int .i64 (-1)] 3)).heap.size 1 (some ⟨w28.heap.size, 0, none⟩) 6 (ints ([1, 65536, 0, 1, 2, -1] : List Int))) := reads_at w28 3 (ints ([1, 65536, 0, 1, 2, -1] : List Int)) 6 _ (by simp) rfl
      clear hb28 hb
      refine (expand_res ([1, 65536, 0, 1, 2, -1] : List Int) (some ⟨w28.heap.size, 0, none⟩) 6 6 (w28.alloc (.cells #[.int .i64 1, .int .i64 65536, .int .i64 0, .int .i64 1, .int .i64 2, .int .i64 (-1)] 3)) x29 (by omega)).mono ?_
      rintro e w30 ⟨B1, d1, hE, ho, hb⟩
      rw [ex_x2, ex_e2] at hE
      dsimp only [List.length_nil] at hE
      subst hE
      clear ho
      have hb30 := below_on hb29 hb
      clear hb29 hb x29
      go_wp2_with fail
      have hb : Below w30.heap.size w30 (w30.alloc (.cells #[.int .i64 1, .int .i64 4611686018427387904, .int .i64 2, .int .i64 4611686018427387904, .int .i64 3, .int .i64 4611686018427387904] 3)) := (Below.refl _ _).alloc (Nat.le_refl _) _
      have hb31 := below_on hb30 hb
      have x31 : Hid (Reads (w30.alloc (.cells #[.int .i64 1, .int .i64 4611686018427387904, .int .i64 2, .int .i64 4611686018427387904, .int .i64 3, .int .i64 4611686018427387904] 3)) (w30.alloc (.cells #[.int .i64 1, .int .i64 4611686018427387904, .int .i64 2, .int .i64 4611686018427387904, .int .i64 3, .int .i64 4611686018427387904] 3)).heap.size 1 (some ⟨w30.heap.size, 0, none⟩) 6 (ints ([1, 4611686018427387904, 2, 4611686018427387904, 3, 4611686018427387904] : List Int))) := reads_at w30 3 (ints ([1, 4611686018427387904, 2, 4611686018427387904, 3, 4611686018427387904] : List Int)) 6 _ (by simp) rfl
      clear hb30 hb
      refine (expand_res ([1, 4611686018427387904, 2, 4611686018427387904, 3, 4611686018427387904] : List Int) (some ⟨w30.heap.size, 0, none⟩) 6 6 (w30.alloc (.cells #[.int .i64 1, .int .i64 4611686018427387904, .int .i64 2, .int .i64 4611686018427387904, .int .i64 3, .int .i64 4611686018427387904] 3)) x31 (by omega)).mono ?_
      rintro e w32 ⟨B2, d2, hE, ho, hb⟩
      rw [ex_x3, ex_e3] at hE
      dsimp only [List.length_nil] at hE
      subst hE
      clear ho
      have hb32 := below_on hb31 hb
      clear hb31 hb x31
      go_wp2_with fail
      refine (awake_any _).mono ?_
      rintro e w33 ⟨rfl, hb⟩
      have hb33 := below_on hb32 hb
      clear hb32 hb
      go_wp2_with fail
      go_ret
      exact ⟨by simp, (below_on hstart hb33.out).out⟩

    | succ g =>
      have hi1 : (i : Int) < 10 := by omega
      have hb0 := hbel
      clear hbel
      go_wp2_with fail
      go_loopg [4] 10 (fun g i wr => ∃ i0 : Nat, i0 + g = 10 ∧ i = .int .i64 i0 ∧ Hid (Below w2.heap.size w2 wr))
      case atStart => exact ⟨0, by omega, rfl, hb0.out⟩
      case round =>
        clear hb0
        obtain ⟨k, hk, rfl, hbel⟩ := hrel
        cases gk with
        | zero =>
          obtain rfl : k = 10 := by omega
          go_wp2_with fail
          go_roundg g
          case measure => omega
          case rel => exact ⟨i + 1, by omega, by go_num, hbel⟩
        | succ g2 =>
          have hk1 : (k : Int) < 10 := by omega
          have i0 : (0 : Int) ≤ (i : Int) := by omega
          have k0 : (0 : Int) ≤ (k : Int) := by omega
          have e9 := reads_on e2 hbel.out
          have s9 := reads_on s2 hbel.out
          obtain ⟨ei, _, hci⟩ := ints_at e9.out (k := i) (by omega)
          obtain ⟨ek, _, hck⟩ := ints_at e9.out (k := k) (by omega)
          rw [Nat.zero_add] at hci hck
          have hlt : w.heap.size < wr.heap.size := World.block_lt_of_cell? wr _ hci
          have s9d : Hid (Reads wr.drew wr.drew.heap.size 1 (some ⟨w.heap.size + 1, 0, none⟩) 9 (ints ([0, 3, -1, 4, 9223372036854775807, -9223372036854775808, 7, 7, 7] : List Int))) := s9.out.drew
          have h9 : 9 ≤ 9 := Nat.le_refl _
          have h9' : 9 ≤ 9223372036854775807 := by decide
          have h0 : 0 ≤ 0 := Nat.le_refl _
          have h0' : 0 ≤ 9223372036854775807 := by decide
          have h4 : 4 ≤ 4 := Nat.le_refl _
          have h4' : 4 ≤ 9223372036854775807 := by decide
          have hlit : ∀ W : World, Hid (Reads (W.alloc (.cells #[.int .i64 ei, .int .i64 2, .int .i64 5, .int .i64 ek] 3)) (W.alloc (.cells #[.int .i64 ei, .int .i64 2, .int .i64 5, .int .i64 ek] 3)).heap.size 1 (some ⟨W.heap.size, 0, none⟩) 4 (ints [ei, 2, 5, ek])) := fun W => reads_lit W 3 (ints [ei, 2, 5, ek]) 4 rfl
          have hnil : ∀ W : World, Hid (Reads W W.heap.size 1 none 0 (ints [])) := fun W => Reads.none_
          go_wp2_with fail
          go_region_held3 (fun w' => w'.cell? ⟨w.heap.size, i, none⟩ = some (.int .i64 ei) ∧ w'.cell? ⟨w.heap.size, k, none⟩ = some (.int .i64 ek))
            (first
              | go_keep
              | exact And.intro (by assumption) (by assumption))
            ((first
              | (go_at_call 3; with_reducible refine (matches_core ei ek (some ⟨w.heap.size + 1, 0, none⟩) 9 9 ([0, 3, -1, 4, 9223372036854775807, -9223372036854775808, 7, 7, 7] : List Int) _ s9d h9 h9').mono ?_; rintro e w3 ⟨rfl, hq0⟩; have hq1 : Below wr.heap.size wr w3 := (Below.refl wr.heap.size wr).drew.trans (hq0.mono (Nat.le_refl _)); clear hq0; have c1i := (hq1.cell hlt).trans hci; have c1k := (hq1.cell hlt).trans hck)
              | (go_at_call 3; with_reducible refine (matches_core ei ek none 0 0 [] _ (hnil _) h0 h0').mono ?_; rintro e w4 ⟨rfl, hq2⟩; have l3 := Nat.lt_of_lt_of_le hlt hq1.size; have c2i := (hq2.cell (p := ⟨w.heap.size, i, none⟩) l3).trans c1i; have c2k := (hq2.cell (p := ⟨w.heap.size, k, none⟩) l3).trans c1k)
              | (go_at_call 8; with_reducible refine (makes_core (IntKind.u64.wrap (k : Int)) ei ek _).mono ?_; rintro e w5 ⟨rfl, hq3⟩; have l4 := Nat.lt_of_lt_of_le l3 hq2.size; have c3i := (hq3.cell (p := ⟨w.heap.size, i, none⟩) l4).trans c2i; have c3k := (hq3.cell (p := ⟨w.heap.size, k, none⟩) l4).trans c2k)
              | (go_at_call 4; with_reducible refine (expands_core (some ⟨w5.heap.size, 0, none⟩) 4 4 [ei, 2, 5, ek] _ (hlit w5) h4 h4').mono ?_; rintro e w6 ⟨rfl, hq4⟩; have ha := (Below.refl w5.heap.size w5).alloc (Nat.le_refl _) (.cells #[.int .i64 ei, .int .i64 2, .int .i64 5, .int .i64 ek] 3); have hq5 := ha.trans (hq4.mono ha.size); have l5 := Nat.lt_of_lt_of_le l4 hq3.size; have c4i := (hq5.cell (p := ⟨w.heap.size, i, none⟩) l5).trans c3i; have c4k := (hq5.cell (p := ⟨w.heap.size, k, none⟩) l5).trans c3k)))
          have hbq := below_on (below_on (below_on (below_on hbel hq1) hq2) hq3) hq5
          go_wp2
          go_roundg g2
          case measure => omega
          case rel => exact ⟨k + 1, by omega, by go_num, hbq⟩
end Go.Proofs.Ytjpmhofpfmogiaa
