/- The law PicksGaps, walked (printed by gen_lawgaps.py). -/
import Derived.Test.YtjpmhofpfmogiaaGapsP
import Derived.Test.YtjpmhofpfmogiaaOpen
import Derived.Deep.LoopGhost
namespace Go.Proofs.Ytjpmhofpfmogiaa
open Go Go.RowKit
set_option linter.unusedVariables false

set_option maxRecDepth 100000 in
set_option maxHeartbeats 8000000 in
theorem gaps_a (a0 b0 : Int) (A : Option Addr) (n c : Nat) (l : List Int) (w : World) (hr : Hid (Reads w w.heap.size 1 A n (ints l))) (hnc : n ≤ c) (hc : c ≤ 9223372036854775807) (hm : n ≤ 150) :
    Calls Try.prog 6 #[.int .i64 a0, .int .i64 b0, .slice A n c] w fun e w' => e = .returned (.bool true) ∧ Below w.heap.size w w' := by
  have hm' : (n : Int) ≤ 150 := by omega
  have hm2 : True := by trivial
  have hm3 : n ≤ 150 := by omega
  obtain ⟨r, hr0⟩ : ∃ r : Nat, a0 % 64 = (r : Int) := Int.eq_ofNat_of_zero_le (mod_lo 64 a0 (by omega)).1
  have hr64 : r < 64 := by have := (mod_lo 64 a0 (by omega)).2; omega
  have hM : ∀ W : World, Calls Try.prog 27 #[.int .i64 a0, .int .i64 64] W fun e w' => e = .returned (.int .i64 (r : Int)) ∧ W = w' := fun W => by rw [← hr0]; exact mod_any a0 64 (by omega) (by omega) W
  have HM := Lib.hid hM
  clear hM hr0
  go_enter Try.func6, Try.ntmps6
  go_wp2_with fail
  go_quiet ((go_at_call 27; exact quiet_left (HM.out _)))
  obtain ⟨T, hT⟩ : ∃ T : Nat, 1 + (r : Int) = (T : Int) := ⟨r + 1, by omega⟩
  have hT1 : 1 ≤ T := by omega
  have hT2 : T ≤ 64 := by omega
  rw [hT]
  obtain ⟨w0, hw0⟩ : ∃ w0, w.drewN nq = w0 := ⟨_, rfl⟩
  have r0 : Hid (Reads w0 w0.heap.size 1 A n (ints l)) := by rw [← hw0]; exact hr.out.drewN nq
  have hb0 : Hid (Below w.heap.size w w0) := by rw [← hw0]; exact below_drewN (Below.refl _ _) nq
  rw [hw0]
  clear hw0 hr HM hT
  obtain ⟨L, hL⟩ : ∃ L, l = L := ⟨_, rfl⟩
  rw [hL] at r0
  clear hL
  have hab := mod_lo T b0 (by omega)
  go_wp2_with fail
  refine (mod_any b0 T (by omega) (by omega) _).mono ?_
  rintro e w' ⟨rfl, rfl⟩
  generalize b0 % (T : Int) = a at *
  have hLn : Hid (L.length = n) := by have := r0.out.1; rw [ints_len] at this; unfold Hid; omega
  have hck : Hid (chk T 0 (n : Nat) = 0) := by unfold Hid chk; rw [if_neg (by omega), if_neg (by omega)]
  have hck2 : Hid (chk T a (n : Nat) = 0) := by unfold Hid chk; rw [if_neg (by omega), if_neg (by omega)]
  have hcl : Hid (chL T L = chl T L) := by unfold Hid chL; rw [hLn.out, if_pos hck.out]
  have hga : Hid (gaN T a L = ((gapR a (chl T L)).1 : Int)) := by unfold Hid gaN; rw [hLn.out, if_pos hck2.out]
  have hcll : Hid ((chl T L).length = n) := by unfold Hid; rw [chl_len]; exact hLn.out
  go_wp2_with fail
  refine (gap_res T a L A n c w0 r0).mono ?_
  rintro e w1 ⟨hE, hb⟩
  rw [hga.out, hck2.out] at hE
  subst hE
  have hb1 := below_on hb0 hb
  have l1 := reads_on r0 hb
  clear hb0 hb r0
  go_wp2_with fail
  refine (chosen_res T L A n c w1 l1).mono ?_
  rintro e w2 ⟨Aa, ca, hE, ho, hb⟩
  rw [hcl.out, hcll.out, hck.out] at hE
  rw [hcl.out, hcll.out] at ho
  subst hE
  obtain ⟨z, ka, ka'⟩ := own_reads ho
  clear ho
  have hb2 := below_on hb1 hb
  have a2 := z
  clear hb1 hb l1
  clear z
  obtain ⟨cl, hcle⟩ : ∃ cl, chl T L = cl := ⟨_, rfl⟩
  rw [hcle] at hcll a2 ⊢
  have HFG : Hid (∀ k : Nat, 1 ≤ k → fairB a cl k (n + 1 - k) = (decide ((gapR a cl).1 < k) || decide (n < k))) := fun k hk => by rw [← hcll.out]; exact fair_gap a cl k hk
  have hgl := (gapR_le a cl).1
  rw [hcll.out] at hgl
  obtain ⟨G, hG⟩ : ∃ G, (gapR a cl).1 = G := ⟨_, rfl⟩
  rw [hG] at HFG hgl ⊢
  clear hcle hcl hga hG
  go_wp2_with fail
  have hstart := hb2
  clear hb2
  go_loopg [11] (n + 1) (fun g i wr => ∃ k : Nat, k + g = n + 2 ∧ 1 ≤ k ∧ i = .int .i64 k ∧ Hid (Below w2.heap.size w2 wr))
  case atStart => exact ⟨1, by omega, Nat.le_refl _, rfl, Below.refl _ _⟩
  case round =>
    obtain ⟨k, hk, hk1, rfl, hbel⟩ := hrel
    cases gk with
    | zero =>
      have hke : ¬ ((k : Int) ≤ (n : Int) + 1) := by omega
    
      go_wp2_with fail
      refine (awake_any _).mono ?_
      rintro e w9 ⟨rfl, hb⟩
      have hbe := below_on (below_on hstart hbel.out) hb
      clear hb
      go_wp2_with fail
      go_ret
      exact ⟨rfl, hbe.out⟩
    | succ g =>
      have hke : (k : Int) ≤ (n : Int) + 1 := by omega
    
      have hfg := Lib.hid (HFG.out k hk1)
      have hb0 := hbel
      clear hbel
      go_wp2_with fail
      go_loopg [12, 13] (n + 1 - k) (fun g v i wr => ∃ f : Nat, f + g = n + 1 - k ∧ i = .int .i64 f ∧ v = .bool (fairB a cl k f) ∧ Hid (Below w2.heap.size w2 wr))
      case atStart => exact ⟨0, by omega, rfl, rfl, hb0.out⟩
      case round =>
        clear hb0
        obtain ⟨f, hf, rfl, rfl, hbel⟩ := hrel
        cases gk with
        | zero =>
          have hfe : ¬ ((f : Int) + (k : Int) ≤ (n : Int)) := by omega
          have hfe2 : decide (f + k ≤ n) = false := by simp; omega
          have hfe3 : ¬ (f + k ≤ n) := by omega
          have hfle : (f : Int) ≤ 151 := by omega
          have hkle : (k : Int) ≤ 151 := by omega
          have hfin : fairB a cl k f = (decide (G < k) || decide (n < k)) := by rw [show f = n + 1 - k by omega]; exact hfg.out
          rw [hfin]
          clear hfg hf hfin
          by_cases h1 : G < k
          · have h1' : (G : Int) < (k : Int) := by omega
            rw [decide_eq_true h1, Bool.true_or]
            go_wp2_with fail
            go_roundg g
            case measure => omega
            case rel => exact ⟨k + 1, by omega, by omega, by go_num, hbel⟩
          · have h1' : ¬ ((G : Int) < (k : Int)) := by omega
            rw [decide_eq_false h1, Bool.false_or]
            by_cases h2 : n < k
            · have h2' : (n : Int) < (k : Int) := by omega
              rw [decide_eq_true h2]
              go_wp2_with fail
              go_roundg g
              case measure => omega
              case rel => exact ⟨k + 1, by omega, by omega, by go_num, hbel⟩
            · have h2' : ¬ ((n : Int) < (k : Int)) := by omega
              rw [decide_eq_false h2]
              go_wp2_with fail
              go_roundg g
              case measure => omega
              case rel => exact ⟨k + 1, by omega, by omega, by go_num, hbel⟩
        | succ g2 =>
          have hfe : (f : Int) + (k : Int) ≤ (n : Int) := by omega
          have hfe2 : decide (f + k ≤ n) = true := by simp; omega
          have hfle : (f : Int) ≤ 151 := by omega
          have hkle : (k : Int) ≤ 151 := by omega
          have hb0 := hbel
          clear hbel
          obtain ⟨fb, hfb⟩ : ∃ fb, fairB a cl k f = fb := ⟨_, rfl⟩
          rw [hfb]
          go_wp2_with fail
          go_loopg [14, 15] k (fun g v i wr => ∃ j : Nat, j + g = k ∧ i = .int .i64 ((f : Int) + (j : Int)) ∧ v = .bool (winB a cl f j) ∧ Hid (Below w2.heap.size w2 wr))
          case atStart => exact ⟨0, by omega, congrArg (Value.int .i64) (by omega), rfl, hb0.out⟩
          case round =>
            clear hb0
            obtain ⟨j, hj, rfl, rfl, hbel⟩ := hrel
            cases gk with
            | zero =>
              obtain rfl : k = j := by omega
              obtain ⟨wb, hwb⟩ : ∃ wb, winB a cl f k = wb := ⟨_, rfl⟩
              have hfn := Lib.hid (show fairB a cl k (f + 1) = (fb && wb) by rw [fairB, hfb, hwb])
              rw [hwb]
              clear hwb hfb
              cases fb with
              | true =>
                go_wp2_with fail
                go_roundg g2
                case measure => omega
                case rel => exact ⟨f + 1, by omega, by go_num, by rw [hfn.out]; simp, hbel⟩
              | false =>
                go_wp2_with fail
                go_roundg g2
                case measure => omega
                case rel => exact ⟨f + 1, by omega, by go_num, by rw [hfn.out]; simp, hbel⟩
            | succ g3 =>
              have hj1 : (f : Int) + (j : Int) < (f : Int) + (k : Int) := by omega
              have hj0 : (0 : Int) ≤ (f : Int) + (j : Int) := by omega
              have hj2 : (f : Int) + (j : Int) < (n : Int) := by omega
              have hj3 : j < k := by omega
              obtain ⟨b, o, rfl, hbB⟩ := reads_head a2.out (show 0 < n by omega) (by decide)
              obtain ⟨x, hv, hcx⟩ := ints_at (reads_on a2 hbel.out).out (k := f + j) (by omega)
              have hwn := Lib.hid (show winB a cl f (j + 1) = (winB a cl f j || (some x == some a)) by rw [winB, hv])
              obtain ⟨wb, hwb⟩ : ∃ wb, winB a cl f j = wb := ⟨_, rfl⟩
              rw [hwb] at hwn ⊢
              clear hwb hv hfb
              cases wb with
              | true =>
                go_wp2_with fail
                go_roundg g3
                case measure => omega
                case rel => exact ⟨j + 1, by omega, congrArg (Value.int .i64) (by omega), by rw [hwn.out]; simp, hbel⟩
              | false =>
                by_cases hxa : x = a
                · subst hxa
                  go_wp2_with fail
                  go_roundg g3
                  case measure => omega
                  case rel => exact ⟨j + 1, by omega, congrArg (Value.int .i64) (by omega), by rw [hwn.out]; simp, hbel⟩
                · have hd : (x == a) = false := by simpa using hxa
                  go_wp2_with fail
                  go_roundg g3
                  case measure => omega
                  case rel => exact ⟨j + 1, by omega, congrArg (Value.int .i64) (by omega), by rw [hwn.out]; simp [hxa], hbel⟩

set_option maxRecDepth 100000 in
set_option maxHeartbeats 8000000 in
theorem gaps_b (a0 b0 : Int) (A : Option Addr) (n c : Nat) (l : List Int) (w : World) (hr : Hid (Reads w w.heap.size 1 A 150 (ints (l.take 150)))) (hnc : n ≤ c) (hc : c ≤ 9223372036854775807) (hm : ¬ n ≤ 150) :
    Calls Try.prog 6 #[.int .i64 a0, .int .i64 b0, .slice A n c] w fun e w' => e = .returned (.bool true) ∧ Below w.heap.size w w' := by
  have hm' : ¬ ((n : Int) ≤ 150) := by omega
  have hm2 : (150 : Int) ≤ (c : Int) := by omega
  have hm3 : 150 ≤ 150 := by omega
  obtain ⟨r, hr0⟩ : ∃ r : Nat, a0 % 64 = (r : Int) := Int.eq_ofNat_of_zero_le (mod_lo 64 a0 (by omega)).1
  have hr64 : r < 64 := by have := (mod_lo 64 a0 (by omega)).2; omega
  have hM : ∀ W : World, Calls Try.prog 27 #[.int .i64 a0, .int .i64 64] W fun e w' => e = .returned (.int .i64 (r : Int)) ∧ W = w' := fun W => by rw [← hr0]; exact mod_any a0 64 (by omega) (by omega) W
  have HM := Lib.hid hM
  clear hM hr0
  go_enter Try.func6, Try.ntmps6
  go_wp2_with fail
  go_quiet ((go_at_call 27; exact quiet_left (HM.out _)))
  obtain ⟨T, hT⟩ : ∃ T : Nat, 1 + (r : Int) = (T : Int) := ⟨r + 1, by omega⟩
  have hT1 : 1 ≤ T := by omega
  have hT2 : T ≤ 64 := by omega
  rw [hT]
  obtain ⟨w0, hw0⟩ : ∃ w0, w.drewN nq = w0 := ⟨_, rfl⟩
  have r0 : Hid (Reads w0 w0.heap.size 1 A 150 (ints (l.take 150))) := by rw [← hw0]; exact hr.out.drewN nq
  have hb0 : Hid (Below w.heap.size w w0) := by rw [← hw0]; exact below_drewN (Below.refl _ _) nq
  rw [hw0]
  clear hw0 hr HM hT
  obtain ⟨L, hL⟩ : ∃ L, (l.take 150) = L := ⟨_, rfl⟩
  rw [hL] at r0
  clear hL
  have hab := mod_lo T b0 (by omega)
  go_wp2_with fail
  refine (mod_any b0 T (by omega) (by omega) _).mono ?_
  rintro e w' ⟨rfl, rfl⟩
  generalize b0 % (T : Int) = a at *
  have hLn : Hid (L.length = 150) := by have := r0.out.1; rw [ints_len] at this; unfold Hid; omega
  have hck : Hid (chk T 0 (150 : Nat) = 0) := by unfold Hid chk; rw [if_neg (by omega), if_neg (by omega)]
  have hck2 : Hid (chk T a (150 : Nat) = 0) := by unfold Hid chk; rw [if_neg (by omega), if_neg (by omega)]
  have hcl : Hid (chL T L = chl T L) := by unfold Hid chL; rw [hLn.out, if_pos hck.out]
  have hga : Hid (gaN T a L = ((gapR a (chl T L)).1 : Int)) := by unfold Hid gaN; rw [hLn.out, if_pos hck2.out]
  have hcll : Hid ((chl T L).length = 150) := by unfold Hid; rw [chl_len]; exact hLn.out
  go_wp2_with fail
  refine (gap_res T a L A 150 c w0 r0).mono ?_
  rintro e w1 ⟨hE, hb⟩
  rw [hga.out, hck2.out] at hE
  subst hE
  have hb1 := below_on hb0 hb
  have l1 := reads_on r0 hb
  clear hb0 hb r0
  go_wp2_with fail
  refine (chosen_res T L A 150 c w1 l1).mono ?_
  rintro e w2 ⟨Aa, ca, hE, ho, hb⟩
  rw [hcl.out, hcll.out, hck.out] at hE
  rw [hcl.out, hcll.out] at ho
  subst hE
  obtain ⟨z, ka, ka'⟩ := own_reads ho
  clear ho
  have hb2 := below_on hb1 hb
  have a2 := z
  clear hb1 hb l1
  clear z
  obtain ⟨cl, hcle⟩ : ∃ cl, chl T L = cl := ⟨_, rfl⟩
  rw [hcle] at hcll a2 ⊢
  have HFG : Hid (∀ k : Nat, 1 ≤ k → fairB a cl k (150 + 1 - k) = (decide ((gapR a cl).1 < k) || decide (150 < k))) := fun k hk => by rw [← hcll.out]; exact fair_gap a cl k hk
  have hgl := (gapR_le a cl).1
  rw [hcll.out] at hgl
  obtain ⟨G, hG⟩ : ∃ G, (gapR a cl).1 = G := ⟨_, rfl⟩
  rw [hG] at HFG hgl ⊢
  clear hcle hcl hga hG
  go_wp2_with fail
  have hstart := hb2
  clear hb2
  go_loopg [11] (150 + 1) (fun g i wr => ∃ k : Nat, k + g = 150 + 2 ∧ 1 ≤ k ∧ i = .int .i64 k ∧ Hid (Below w2.heap.size w2 wr))
  case atStart => exact ⟨1, by omega, Nat.le_refl _, rfl, Below.refl _ _⟩
  case round =>
    obtain ⟨k, hk, hk1, rfl, hbel⟩ := hrel
    cases gk with
    | zero =>
      have hke : ¬ ((k : Int) ≤ (150 : Int) + 1) := by omega
      have hke2 : ¬ ((k : Int) ≤ 151) := by omega
      go_wp2_with fail
      refine (awake_any _).mono ?_
      rintro e w9 ⟨rfl, hb⟩
      have hbe := below_on (below_on hstart hbel.out) hb
      clear hb
      go_wp2_with fail
      go_ret
      exact ⟨rfl, hbe.out⟩
    | succ g =>
      have hke : (k : Int) ≤ (150 : Int) + 1 := by omega
      have hke2 : (k : Int) ≤ 151 := by omega
      have hfg := Lib.hid (HFG.out k hk1)
      have hb0 := hbel
      clear hbel
      go_wp2_with fail
      go_loopg [12, 13] (150 + 1 - k) (fun g v i wr => ∃ f : Nat, f + g = 150 + 1 - k ∧ i = .int .i64 f ∧ v = .bool (fairB a cl k f) ∧ Hid (Below w2.heap.size w2 wr))
      case atStart => exact ⟨0, by omega, rfl, rfl, hb0.out⟩
      case round =>
        clear hb0
        obtain ⟨f, hf, rfl, rfl, hbel⟩ := hrel
        cases gk with
        | zero =>
          have hfe : ¬ ((f : Int) + (k : Int) ≤ (150 : Int)) := by omega
          have hfe2 : decide (f + k ≤ 150) = false := by simp; omega
          have hfe3 : ¬ (f + k ≤ 150) := by omega
          have hfle : (f : Int) ≤ 151 := by omega
          have hkle : (k : Int) ≤ 151 := by omega
          have hfin : fairB a cl k f = (decide (G < k) || decide (150 < k)) := by rw [show f = 150 + 1 - k by omega]; exact hfg.out
          rw [hfin]
          clear hfg hf hfin
          by_cases h1 : G < k
          · have h1' : (G : Int) < (k : Int) := by omega
            rw [decide_eq_true h1, Bool.true_or]
            go_wp2_with fail
            go_roundg g
            case measure => omega
            case rel => exact ⟨k + 1, by omega, by omega, by go_num, hbel⟩
          · have h1' : ¬ ((G : Int) < (k : Int)) := by omega
            rw [decide_eq_false h1, Bool.false_or]
            by_cases h2 : 150 < k
            · have h2' : (150 : Int) < (k : Int) := by omega
              rw [decide_eq_true h2]
              go_wp2_with fail
              go_roundg g
              case measure => omega
              case rel => exact ⟨k + 1, by omega, by omega, by go_num, hbel⟩
            · have h2' : ¬ ((150 : Int) < (k : Int)) := by omega
              rw [decide_eq_false h2]
              go_wp2_with fail
              go_roundg g
              case measure => omega
              case rel => exact ⟨k + 1, by omega, by omega, by go_num, hbel⟩
        | succ g2 =>
          have hfe : (f : Int) + (k : Int) ≤ (150 : Int) := by omega
          have hfe2 : decide (f + k ≤ 150) = true := by simp; omega
          have hfle : (f : Int) ≤ 151 := by omega
          have hkle : (k : Int) ≤ 151 := by omega
          have hb0 := hbel
          clear hbel
          obtain ⟨fb, hfb⟩ : ∃ fb, fairB a cl k f = fb := ⟨_, rfl⟩
          rw [hfb]
          go_wp2_with fail
          go_loopg [14, 15] k (fun g v i wr => ∃ j : Nat, j + g = k ∧ i = .int .i64 ((f : Int) + (j : Int)) ∧ v = .bool (winB a cl f j) ∧ Hid (Below w2.heap.size w2 wr))
          case atStart => exact ⟨0, by omega, congrArg (Value.int .i64) (by omega), rfl, hb0.out⟩
          case round =>
            clear hb0
            obtain ⟨j, hj, rfl, rfl, hbel⟩ := hrel
            cases gk with
            | zero =>
              obtain rfl : k = j := by omega
              obtain ⟨wb, hwb⟩ : ∃ wb, winB a cl f k = wb := ⟨_, rfl⟩
              have hfn := Lib.hid (show fairB a cl k (f + 1) = (fb && wb) by rw [fairB, hfb, hwb])
              rw [hwb]
              clear hwb hfb
              cases fb with
              | true =>
                go_wp2_with fail
                go_roundg g2
                case measure => omega
                case rel => exact ⟨f + 1, by omega, by go_num, by rw [hfn.out]; simp, hbel⟩
              | false =>
                go_wp2_with fail
                go_roundg g2
                case measure => omega
                case rel => exact ⟨f + 1, by omega, by go_num, by rw [hfn.out]; simp, hbel⟩
            | succ g3 =>
              have hj1 : (f : Int) + (j : Int) < (f : Int) + (k : Int) := by omega
              have hj0 : (0 : Int) ≤ (f : Int) + (j : Int) := by omega
              have hj2 : (f : Int) + (j : Int) < (150 : Int) := by omega
              have hj3 : j < k := by omega
              obtain ⟨b, o, rfl, hbB⟩ := reads_head a2.out (show 0 < 150 by omega) (by decide)
              obtain ⟨x, hv, hcx⟩ := ints_at (reads_on a2 hbel.out).out (k := f + j) (by omega)
              have hwn := Lib.hid (show winB a cl f (j + 1) = (winB a cl f j || (some x == some a)) by rw [winB, hv])
              obtain ⟨wb, hwb⟩ : ∃ wb, winB a cl f j = wb := ⟨_, rfl⟩
              rw [hwb] at hwn ⊢
              clear hwb hv hfb
              cases wb with
              | true =>
                go_wp2_with fail
                go_roundg g3
                case measure => omega
                case rel => exact ⟨j + 1, by omega, congrArg (Value.int .i64) (by omega), by rw [hwn.out]; simp, hbel⟩
              | false =>
                by_cases hxa : x = a
                · subst hxa
                  go_wp2_with fail
                  go_roundg g3
                  case measure => omega
                  case rel => exact ⟨j + 1, by omega, congrArg (Value.int .i64) (by omega), by rw [hwn.out]; simp, hbel⟩
                · have hd : (x == a) = false := by simpa using hxa
                  go_wp2_with fail
                  go_roundg g3
                  case measure => omega
                  case rel => exact ⟨j + 1, by omega, congrArg (Value.int .i64) (by omega), by rw [hwn.out]; simp [hxa], hbel⟩

theorem gaps_law (a0 b0 : Int) (A : Option Addr) (n c : Nat) (l : List Int) (w : World) (w0 : (Lit.int .i64 a0).wf = true) (w1 : (Lit.int .i64 b0).wf = true) (h : IsInts w A n c l) :
    Calls Try.prog 6 #[.int .i64 a0, .int .i64 b0, .slice A n c] w fun e w' => e = .returned (.bool true) ∧ Below w.heap.size w w' := by
  have hcap := h.cap
  unfold maxLen at hcap
  by_cases hm : n ≤ 150
  · exact gaps_a a0 b0 A n c l w h.reads h.le hcap hm
  · have hr : Reads w w.heap.size 1 A 150 (ints (l.take 150)) := by
      rw [← ints_take]
      exact h.reads.take_ (by omega)
    exact gaps_b a0 b0 A n c l w hr h.le hcap hm
end Go.Proofs.Ytjpmhofpfmogiaa
