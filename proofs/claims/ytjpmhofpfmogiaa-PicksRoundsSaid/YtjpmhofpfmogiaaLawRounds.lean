/- The law PicksRounds, walked (printed by gen_lawrounds.py). -/
import Derived.Test.YtjpmhofpfmogiaaAwake
import Derived.Deep.LoopGhost
namespace Go.Proofs.Ytjpmhofpfmogiaa
open Go Go.RowKit
set_option linter.unusedVariables false

theorem mod301 (n : Int) (w : World) :
    Calls Try.prog 27 #[.int .i64 n, .int .i64 301] w fun e w' => e = .returned (.int .i64 (n % 301)) ∧ w = w' := by
  have hc : (wrap64 (n.tmod 301 + 301)).tmod 301 = n % 301 := by
    have := tmod_small 301 n (by omega)
    rw [wrap_in _ (by omega), Int.tmod_eq_emod_of_nonneg (by omega), tmod_off 301 n (by omega)]
  go_enter Try.func27, Try.ntmps27
  go_wp2
  go_ret
  exact ⟨rfl, rfl⟩
theorem rnd_ne {T i k : Nat} (h1 : 1 ≤ T) (hk : k < i) (hi : i < k + T) : rnd T k ≠ rnd T i := by
  unfold rnd
  intro h
  have h2 : k % T = i % T := by omega
  have h3 := Nat.div_add_mod k T
  have h4 := Nat.div_add_mod i T
  rw [h2] at h3
  have h5 : T * (k / T) < T * (i / T) := by omega
  have h6 := Nat.lt_of_mul_lt_mul_left h5
  have h7 : T * (k / T + 1) ≤ T * (i / T) := Nat.mul_le_mul_left T h6
  rw [Nat.mul_add, Nat.mul_one] at h7
  omega
theorem map_at (f : Nat → Int) {n k : Nat} {v : Int} (h : ((List.range n).map f)[k]? = some v) : v = f k := by
  rw [List.getElem?_map] at h
  by_cases hk : k < n
  · rw [List.getElem?_range hk] at h
    exact (Option.some.inj h).symm
  · rw [List.getElem?_eq_none (by rw [List.length_range]; omega)] at h
    cases h

set_option maxRecDepth 100000 in
set_option maxHeartbeats 8000000 in
theorem rounds_law (s a0 n0 : Int) (w : World) (ws : (Lit.int .u64 s).wf = true) (wt : (Lit.int .i64 a0).wf = true) (wn : (Lit.int .i64 n0).wf = true) :
    Calls Try.prog 10 #[.int .u64 s, .int .i64 a0, .int .i64 n0] w fun e w' => e = .returned (.bool true) ∧ Below w.heap.size w w' := by
  obtain ⟨r, hr0⟩ : ∃ r : Nat, a0 % 64 = (r : Int) := Int.eq_ofNat_of_zero_le (mod_lo 64 a0 (by omega)).1
  have hr64 : r < 64 := by have := (mod_lo 64 a0 (by omega)).2; omega
  obtain ⟨N, hN0⟩ : ∃ N : Nat, n0 % 301 = (N : Int) := Int.eq_ofNat_of_zero_le (mod_lo 301 n0 (by omega)).1
  have hN : N ≤ 300 := by have := (mod_lo 301 n0 (by omega)).2; omega
  go_enter Try.func10, Try.ntmps10
  go_wp2_with fail
  refine (mod_any a0 64 (by omega) (by omega) _).mono ?_
  rintro e w' ⟨rfl, rfl⟩
  rw [hr0]
  clear hr0
  go_wp2_with fail
  refine (mod301 n0 _).mono ?_
  rintro e w' ⟨rfl, rfl⟩
  rw [hN0]
  clear hN0
  obtain ⟨T, hT⟩ : ∃ T : Nat, 1 + (r : Int) = (T : Int) := ⟨r + 1, by omega⟩
  have hT1 : 1 ≤ T := by omega
  have hT2 : T ≤ 64 := by omega
  rw [hT]
  clear hT
  have s1 : Hid (siz T N = 0) := by unfold Hid siz; rw [if_neg (by omega), if_neg (by omega)]
  have s2 : Hid (siz T ((N : Int) + 7) = 0) := by unfold Hid siz; rw [if_neg (by omega), if_neg (by omega)]
  have l1 : Hid (rnL T N = (List.range N).map (rnd T)) := by unfold Hid rnL; rw [if_pos s1.out]; rfl
  have l2 : Hid (mxL s T N = (List.range N).map (mxd T s)) := by unfold Hid mxL; rw [if_pos s1.out]; rfl
  have l3 : Hid (mxL s T ((N : Int) + 7) = (List.range (N + 7)).map (mxd T s)) := by unfold Hid mxL; rw [if_pos s2.out]; rfl
  have hb0 : Hid (Below w.heap.size w w) := Below.refl _ _
  go_wp2_with fail
  refine (round_res T N w).mono ?_
  rintro e w1 ⟨Aa, ca, hE, ho, hb⟩
  rw [l1.out, List.length_map, List.length_range, s1.out] at hE
  rw [l1.out, List.length_map, List.length_range] at ho
  subst hE
  obtain ⟨z, ka, ka'⟩ := own_reads ho
  clear ho
  have hb1 := below_on hb0 hb
  have a1 := z
  clear hb0 hb
  clear z
  go_wp2_with fail
  refine (mixed_res s T N w1).mono ?_
  rintro e w2 ⟨Ab, cb, hE, ho, hb⟩
  rw [l2.out, List.length_map, List.length_range, s1.out] at hE
  rw [l2.out, List.length_map, List.length_range] at ho
  subst hE
  obtain ⟨z, kb, kb'⟩ := own_reads ho
  clear ho
  have hb2 := below_on hb1 hb
  have a2 := reads_on a1 hb
  have b2 := z
  clear hb1 hb a1
  clear z
  go_wp2_with fail
  refine (mixed_res s T ((N : Int) + 7) w2).mono ?_
  rintro e w3 ⟨Ac, cc, hE, ho, hb⟩
  rw [l3.out, List.length_map, List.length_range, s2.out] at hE
  rw [l3.out, List.length_map, List.length_range] at ho
  subst hE
  obtain ⟨z, kc, kc'⟩ := own_reads ho
  clear ho
  have hb3 := below_on hb2 hb
  have a3 := reads_on a2 hb
  have b3 := reads_on b2 hb
  have c3 := z
  clear hb2 hb a2 b2
  clear z
  go_wp2_with fail
  have hstart := hb3
  clear hb3
  go_loopg [13] N (fun g i wr => ∃ q : Nat, q + g = N ∧ i = .int .i64 q ∧ Hid (Below w3.heap.size w3 wr))
  case atStart => exact ⟨0, by omega, rfl, Below.refl _ _⟩
  case round =>
    obtain ⟨q, hq, rfl, hbel⟩ := hrel
    cases gk with
    | zero =>
      obtain rfl : N = q := by omega
      go_wp2_with fail
      refine (awake_any _).mono ?_
      rintro e w9 ⟨rfl, hb⟩
      have hbe := below_on (below_on hstart hbel.out) hb
      clear hb
      go_wp2_with fail
      go_ret
      exact ⟨rfl, hbe.out⟩
    | succ g =>
      have hq2 : (q : Int) < (N : Int) := by omega
      have hq3 : (q : Int) < (N : Int) + 7 := by omega
      have hq0 : (0 : Int) ≤ (q : Int) := by omega
      obtain ⟨ad, u, rfl, _, hx, hc1⟩ := (reads_on a3 hbel.out).out.at_ (show q < N by omega)
      obtain ⟨x, hv, rfl⟩ := ints_get _ q hx
      have hx1 := map_at _ hv
      obtain ⟨ad2, u, rfl, _, hx, hc2⟩ := (reads_on b3 hbel.out).out.at_ (show q < N by omega)
      obtain ⟨y, hv, rfl⟩ := ints_get _ q hx
      have hy1 := map_at _ hv
      obtain ⟨ad3, u, rfl, _, hx, hc3⟩ := (reads_on c3 hbel.out).out.at_ (show q < N + 7 by omega)
      obtain ⟨z, hv, rfl⟩ := ints_get _ q hx
      obtain rfl : y = z := hy1.trans (map_at _ hv).symm
      have hX := Lib.hid hx1
      have bx := rnd_bd T hT1 q
      rw [← hx1] at bx
      have bY := mxd_bd T hT1 s q
      rw [← hy1] at bY
      have hd1 : decide (x < 0) = false := by simp; omega
      have hd2 : decide ((T : Int) ≤ x) = false := by simp; omega
      have hd3 : decide (y < 0) = false := by simp; omega
      have hd4 : decide ((T : Int) ≤ y) = false := by simp; omega
      clear hx hv hx1 hy1
      go_wp2_with fail
      go_quiet (fail)
      have hbq : Hid (Below w3.heap.size w3 (wr.drewN nq)) := below_drewN hbel.out nq
      obtain ⟨wq, hwq⟩ : ∃ wq, wr.drewN nq = wq := ⟨_, rfl⟩
      rw [hwq] at hbq ⊢
      clear hwq hbel hc1 hc2 hc3 hd1 hd2 hd3 hd4 bx bY
      by_cases hTq : (T : Int) ≤ (q : Int)
      · have hm0 : (0 : Int) ≤ (q : Int) - (T : Int) + 1 := by omega
        have hm1 : (0 : Int) < (q : Int) - (T : Int) + 1 := by omega
        go_wp2_with fail
        go_loopg [14] (q - (q + 1 - T)) (fun g i wr => ∃ k : Nat, k + g = q ∧ q + 1 - T ≤ k ∧ i = .int .i64 k ∧ Hid (Below w3.heap.size w3 wr))
        case atStart => exact ⟨q + 1 - T, by omega, Nat.le_refl _, by first | rfl | exact congrArg (Value.int .i64) (by omega), hbq.out⟩
        case round =>
          clear hbq
          obtain ⟨k, hk, hst, rfl, hbel⟩ := hrel
          cases gk with
          | zero =>
            obtain rfl : q = k := by omega
            go_wp2_with fail
            go_roundg g
            case measure => omega
            case rel => exact ⟨q + 1, by omega, by go_num, hbel⟩
          | succ g2 =>
            have hk0 : (0 : Int) ≤ (k : Int) := by omega
            have hk2 : (k : Int) < (q : Int) := by omega
            have hk3 : (k : Int) < (N : Int) := by omega
            obtain ⟨ad5, u, had, _, hx, hc1⟩ := (reads_on a3 hbel.out).out.at_ (show q < N by omega)
            obtain rfl : ad = ad5 := Option.some.inj had
            obtain ⟨x5, hv, rfl⟩ := ints_get _ q hx
            obtain rfl : x = x5 := hX.out.trans (map_at _ hv).symm
            obtain ⟨ad6, u, had2, _, hx, hc2⟩ := (reads_on a3 hbel.out).out.at_ (show k < N by omega)
            obtain rfl : ad = ad6 := Option.some.inj had2
            obtain ⟨y5, hv2, rfl⟩ := ints_get _ k hx
            have hy5 := map_at _ hv2
            have hne : y5 ≠ x := by
              rw [hX.out, hy5]
              exact rnd_ne hT1 (show k < q by omega) (by omega)
            have hd1 : (y5 == x) = false := by simpa using hne
            clear hx hv hv2 hy5 had had2
            go_wp2_with fail
            go_quiet (fail)
            go_wp2_with fail
            go_roundg g2
            case measure => omega
            case rel => exact ⟨k + 1, by omega, by omega, by go_num, below_drewN hbel.out _⟩
      · have hm1 : (q : Int) - (T : Int) + 1 ≤ 0 := by omega
        go_wp2_with fail
        go_loopg [14] (q - (0)) (fun g i wr => ∃ k : Nat, k + g = q ∧ 0 ≤ k ∧ i = .int .i64 k ∧ Hid (Below w3.heap.size w3 wr))
        case atStart => exact ⟨0, by omega, Nat.le_refl _, by first | rfl | exact congrArg (Value.int .i64) (by omega), hbq.out⟩
        case round =>
          clear hbq
          obtain ⟨k, hk, hst, rfl, hbel⟩ := hrel
          cases gk with
          | zero =>
            obtain rfl : q = k := by omega
            go_wp2_with fail
            go_roundg g
            case measure => omega
            case rel => exact ⟨q + 1, by omega, by go_num, hbel⟩
          | succ g2 =>
            have hk0 : (0 : Int) ≤ (k : Int) := by omega
            have hk2 : (k : Int) < (q : Int) := by omega
            have hk3 : (k : Int) < (N : Int) := by omega
            obtain ⟨ad5, u, had, _, hx, hc1⟩ := (reads_on a3 hbel.out).out.at_ (show q < N by omega)
            obtain rfl : ad = ad5 := Option.some.inj had
            obtain ⟨x5, hv, rfl⟩ := ints_get _ q hx
            obtain rfl : x = x5 := hX.out.trans (map_at _ hv).symm
            obtain ⟨ad6, u, had2, _, hx, hc2⟩ := (reads_on a3 hbel.out).out.at_ (show k < N by omega)
            obtain rfl : ad = ad6 := Option.some.inj had2
            obtain ⟨y5, hv2, rfl⟩ := ints_get _ k hx
            have hy5 := map_at _ hv2
            have hne : y5 ≠ x := by
              rw [hX.out, hy5]
              exact rnd_ne hT1 (show k < q by omega) (by omega)
            have hd1 : (y5 == x) = false := by simpa using hne
            clear hx hv hv2 hy5 had had2
            go_wp2_with fail
            go_quiet (fail)
            go_wp2_with fail
            go_roundg g2
            case measure => omega
            case rel => exact ⟨k + 1, by omega, by omega, by go_num, below_drewN hbel.out _⟩
end Go.Proofs.Ytjpmhofpfmogiaa
