/- The law PicksPartition, walked (printed by gen_lawpart.py). -/
import Derived.Test.YtjpmhofpfmogiaaPartP
import Derived.Test.YtjpmhofpfmogiaaOpen
import Derived.Deep.LoopGhost
namespace Go.Proofs.Ytjpmhofpfmogiaa
open Go Go.RowKit
set_option linter.unusedVariables false

set_option maxRecDepth 100000 in
set_option maxHeartbeats 8000000 in
theorem part_a (a0 : Int) (A : Option Addr) (n c : Nat) (l : List Int) (w : World) (hr : Hid (Reads w w.heap.size 1 A n (ints l))) (hnc : n ≤ c) (hc : c ≤ 9223372036854775807) (hm : n ≤ 400) :
    Calls Try.prog 5 #[.int .i64 a0, .slice A n c] w fun e w' => e = .returned (.bool true) ∧ Below w.heap.size w w' := by
  have hm' : (n : Int) ≤ 400 := by omega
  have hm2 : True := by trivial
  have hm3 : n ≤ 400 := by omega
  obtain ⟨r, hr0⟩ : ∃ r : Nat, a0 % 64 = (r : Int) := Int.eq_ofNat_of_zero_le (mod_lo 64 a0 (by omega)).1
  have hr64 : r < 64 := by have := (mod_lo 64 a0 (by omega)).2; omega
  have hM : ∀ W : World, Calls Try.prog 27 #[.int .i64 a0, .int .i64 64] W fun e w' => e = .returned (.int .i64 (r : Int)) ∧ W = w' := fun W => by rw [← hr0]; exact mod_any a0 64 (by omega) (by omega) W
  have HM := Lib.hid hM
  clear hM hr0
  go_enter Try.func5, Try.ntmps5
  go_wp2_with fail
  go_quiet ((go_at_call 27; exact quiet_left (HM.out _)))
  obtain ⟨T, hT⟩ : ∃ T : Nat, 1 + (r : Int) = (T : Int) := ⟨r + 1, by omega⟩
  have hT1 : 1 ≤ T := by omega
  have hT2 : T ≤ 64 := by omega
  rw [hT]
  obtain ⟨w0, hw0⟩ : ∃ w0, w.drewN nq = w0 := ⟨_, rfl⟩
  have r0 : Hid (Reads w0 w0.heap.size 1 A n (ints l)) := by rw [← hw0]; exact hr.out.drewN nq
  have hb0 : Hid (Below w.heap.size w w0) := by rw [← hw0]; exact below_drewN (Below.refl _ _) nq
  rw [hw0]
  clear hw0 hr HM hT
  obtain ⟨L, hL⟩ : ∃ L, l = L := ⟨_, rfl⟩
  rw [hL] at r0
  clear hL
  have hLn : Hid (L.length = n) := by have := r0.out.1; rw [ints_len] at this; unfold Hid; omega
  have hck : Hid (chk T 0 (n : Nat) = 0) := by unfold Hid chk; rw [if_neg (by omega), if_neg (by omega)]
  have hcl : Hid (chL T L = chl T L) := by unfold Hid chL; rw [hLn.out, if_pos hck.out]
  have hcn : Hid (cnL T L = cnts T (chl T L)) := by unfold Hid cnL; rw [hLn.out, if_pos hck.out]; rfl
  have hcll : Hid ((chl T L).length = n) := by unfold Hid; rw [chl_len]; exact hLn.out
  have hcb := Lib.hid (chl_bd T (by omega) L)
  go_wp2_with fail
  refine (chosen_res T L A n c w0 r0).mono ?_
  rintro e w1 ⟨Aa, ca, hE, ho, hb⟩
  rw [hcl.out, hcll.out, hck.out] at hE
  rw [hcl.out, hcll.out] at ho
  subst hE
  obtain ⟨z, ka, ka'⟩ := own_reads ho
  clear ho
  have hb1 := below_on hb0 hb
  have l1 := reads_on r0 hb
  have a1 := z
  clear hb0 hb r0
  clear z
  go_wp2_with fail
  refine (counts_res T L A n c w1 l1).mono ?_
  rintro e w2 ⟨Ak, ck, hE, ho, hb⟩
  rw [hcn.out, cnts_len, hck.out] at hE
  rw [hcn.out, cnts_len] at ho
  subst hE
  obtain ⟨z, kk, kk'⟩ := own_reads ho
  clear ho
  have hb2 := below_on hb1 hb
  have l2 := reads_on l1 hb
  have a2 := reads_on a1 hb
  have k2 := z
  clear hb1 hb l1 a1
  clear z
  go_wp2_with fail
  obtain ⟨cl, hcle⟩ : ∃ cl, chl T L = cl := ⟨_, rfl⟩
  have HWC : Hid (∀ q : Nat, (wo T q L).length + cnt cl q = n) := fun q => by rw [← hcle, ← hLn.out]; exact wo_cnt T q L
  have HWF : Hid (∀ q : Nat, chl T (wo T q L) = cl.filter (fun x => decide (x ≠ (q : Int)))) := fun q => by rw [← hcle]; exact wo_chl T q L
  rw [hcle] at hcll hcb a2 k2
  clear hcle hcl hcn
  have hstart := hb2
  clear hb2
  go_loopg [9, 10] T (fun g s i wr => ∃ q : Nat, q + g = T ∧ i = .int .i64 q ∧ s = .int .i64 (sumC cl q : Nat) ∧ Hid (Below w2.heap.size w2 wr))
  case atStart => exact ⟨0, by omega, rfl, rfl, Below.refl _ _⟩
  case round =>
    obtain ⟨q, hq, rfl, rfl, hbel⟩ := hrel
    have hsl := sumC_le cl q
    rw [hcll.out] at hsl
    have hsl2 : sumC cl q ≤ 25600 := Nat.le_trans hsl (Nat.le_trans (Nat.mul_le_mul (show q ≤ 64 by omega) (show n ≤ 400 by omega)) (by decide))
    cases gk with
    | zero =>
      obtain rfl : T = q := by omega
      have hall := sumC_all T cl hcb.out
      rw [hcll.out] at hall
      rw [hall]
      clear hall hsl hsl2
      go_wp2_with fail
      refine (awake_any _).mono ?_
      rintro e w9 ⟨rfl, hb⟩
      have hbe := below_on (below_on hstart hbel.out) hb
      clear hb
      go_wp2_with fail
      go_ret
      exact ⟨by simp, hbe.out⟩
    | succ g =>
      have hq2 : (q : Int) < (T : Int) := by omega
      have hckq : Hid (chk T q (n : Nat) = 0) := by unfold Hid chk; rw [if_neg (by omega), if_neg (by omega)]
      have hwl : Hid (woL T q L = wo T q L) := by unfold Hid woL; rw [hLn.out, if_pos hckq.out]
      have hwc := HWC.out q
      have hwf := Lib.hid (HWF.out q)
      obtain ⟨wl, hwle⟩ : ∃ wl, wo T q L = wl := ⟨_, rfl⟩
      rw [hwle] at hwl hwc hwf
      clear hwle
      obtain ⟨N2, hN2⟩ : ∃ N2, wl.length = N2 := ⟨_, rfl⟩
      rw [hN2] at hwc
      have hN2' := Lib.hid hN2
      have hck2 : Hid (chk T 0 (N2 : Nat) = 0) := by unfold Hid chk; rw [if_neg (by omega), if_neg (by omega)]
      have hcl2 : Hid (chL T wl = cl.filter (fun x => decide (x ≠ (q : Int)))) := by unfold Hid chL; rw [hN2, if_pos hck2.out]; exact hwf.out
      have hfl : Hid ((cl.filter (fun x => decide (x ≠ (q : Int)))).length = N2) := by unfold Hid; rw [← hwf.out, chl_len, hN2]
      have l9 := reads_on l2 hbel.out
      have a9 := reads_on a2 hbel.out
      have k9 := reads_on k2 hbel.out
      have hbel9 := hbel
      clear hN2 hwf hbel hsl
      go_wp2_with fail
      refine (without_res T q L A n c wr l9).mono ?_
      rintro e w11 ⟨Ax, cx, hE, ho, hb⟩
      rw [hwl.out, hN2'.out, hckq.out] at hE
      rw [hwl.out, hN2'.out] at ho
      subst hE
      obtain ⟨z, kx, kx'⟩ := own_reads ho
      clear ho
      have hb11 := below_on hbel9 hb
      have l11 := reads_on l9 hb
      have a11 := reads_on a9 hb
      have k11 := reads_on k9 hb
      have x11 := z
      clear hbel9 hb l9 a9 k9
      clear z
      go_wp2_with fail
      refine (chosen_res T wl Ax N2 cx w11 x11).mono ?_
      rintro e w12 ⟨Ay, cy, hE, ho, hb⟩
      rw [hcl2.out, hfl.out, hck2.out] at hE
      rw [hcl2.out, hfl.out] at ho
      subst hE
      obtain ⟨z, ky, ky'⟩ := own_reads ho
      clear ho
      have hb12 := below_on hb11 hb
      have l12 := reads_on l11 hb
      have a12 := reads_on a11 hb
      have k12 := reads_on k11 hb
      have y12 := z
      clear hb11 hb l11 a11 k11 x11
      clear z
      go_wp2_with fail
      obtain ⟨i0, hi0, hz0, hz1, hz2⟩ := info_parts infoInt
      go_loopg [15, 16] n (fun g s i wr => ∃ k : Nat, k + g = n ∧ i = .int .i64 k ∧ Hid (wr.ownsRow w12.heap.size 3 1 s ((cl.take k).filter (fun x => decide (x ≠ (q : Int)))).length (ints ((cl.take k).filter (fun x => decide (x ≠ (q : Int)))))) ∧ Hid (Below w12.heap.size w12 wr))
      case atStart => exact ⟨0, by omega, rfl, World.ownsRow_nil _ _ _ _, Below.refl _ _⟩
      case round =>
        obtain ⟨k, hk, rfl, hown, hbel⟩ := hrel
        cases gk with
        | zero =>
          obtain rfl : n = k := by omega
          have htk : Hid (cl.take n = cl) := List.take_of_length_le (by rw [hcll.out]; exact Nat.le_refl _)
          rw [htk.out, hfl.out] at hown
          obtain ⟨Aw, cw, rfl, _⟩ := own_form hown.out
          obtain ⟨zw, kw, kw'⟩ := own_reads hown.out
          have y7 := reads_on y12 hbel.out
          have k7 := reads_on k12 hbel.out
          have b7 := below_on hb12 hbel.out
          obtain ⟨ad, u, rfl, hadb, hx, hcell⟩ := k7.out.at_ (show q < T by omega)
          obtain ⟨v, hv, rfl⟩ := ints_get _ q hx
          obtain rfl : (cnt cl q : Int) = v := Option.some.inj ((cnts_get (show q < T by omega)).symm.trans hv)
          have hcq := cnt_le cl q
          rw [hcll.out] at hcq
          have q0 : (0 : Int) ≤ (q : Int) := by omega
          have e9 : (N2 : Int) = ((n : Nat) : Int) - (cnt cl q : Int) := by omega
          have hs2 : sumC cl (q + 1) = sumC cl q + cnt cl q := rfl
          have hcc : cnt cl q ≤ 400 := by omega
          generalize cnt cl q = cq at *
          clear hx hv
          go_wp2_with fail
          refine (eq_same _ Ay Aw N2 N2 cy cw wr y7 zw (by omega)).mono ?_
          rintro e w8 ⟨rfl, hb⟩
          have b8 := below_on b7 hb
          have hcell8 := (hb.cell (show (ad.add q).block < wr.heap.size by rw [block_of_add]; exact hadb)).trans hcell
          clear hb
          go_wp2_with fail
          go_roundg g
          case measure => omega
          case rel => exact ⟨q + 1, by omega, by go_num, congrArg (Value.int .i64) (by omega), b8⟩
        | succ g2 =>
          have k0 : (0 : Int) ≤ (k : Int) := by omega
          have k1 : (k : Int) < (n : Int) := by omega
          obtain ⟨ad, u, rfl, _, hx, hcell⟩ := (reads_on a12 hbel.out).out.at_ (show k < n by omega)
          obtain ⟨v, hv, rfl⟩ := ints_get _ k hx
          clear hx
          have hfle : ((cl.take k).filter (fun x => decide (x ≠ (q : Int)))).length ≤ 400 := Nat.le_trans (List.length_filter_le _ _) (by rw [List.length_take]; omega)
          by_cases hvq : v = (q : Int)
          · have hfm := Lib.hid (filt_miss hv hvq)
            clear hv
            subst hvq
            go_wp2_with fail
            go_roundg g2
            case measure => omega
            case rel => exact ⟨k + 1, by omega, by go_num, by rw [hfm.out]; exact hown, hbel⟩
          · have hfh := Lib.hid (filt_hit hv hvq)
            have hsz := Lib.hid hbel.out.size
            clear hv
            generalize hos : (cl.take k).filter (fun x => decide (x ≠ (q : Int))) = os at *
            go_wp2_with (at_builtin; refine wpList_append_own _ rfl _ _ 22 rfl w12.heap.size 3 i0 (.int .i64 0) 1 8 Try.underlying22 hi0 hz0 hz1 hz2 rfl (by decide) u15 os.length (ints os) rfl (hown.out.alloc _) ⟨wr.heap.size, 0, none⟩ 1 1 [.int .i64 v] rfl rfl (cell_one_new _ _ _) (by simp [Value.oneCell']) (by unfold maxLen; omega) (by omega) (by have := hsz.out; simp; omega) ?_; intro v' w5 hown' hgrow _)
            have hbel' : Hid (Below w12.heap.size w12 w5) := (hbel.out.alloc hsz.out _).grown hgrow (by have := hsz.out; simp; omega) (fun q hq => (hown.out.lt q hq).1)
            have hown2 : Hid (w5.ownsRow w12.heap.size 3 1 v' (os ++ [v]).length (ints (os ++ [v]))) := by
              unfold Hid
              rw [ints_append, List.length_append]
              exact hown'
            clear hown' hgrow
            go_wp2
            go_roundg g2
            case measure => omega
            case rel => exact ⟨k + 1, by omega, by go_num, by rw [hfh.out]; exact hown2, hbel'⟩

set_option maxRecDepth 100000 in
set_option maxHeartbeats 8000000 in
theorem part_b (a0 : Int) (A : Option Addr) (n c : Nat) (l : List Int) (w : World) (hr : Hid (Reads w w.heap.size 1 A 400 (ints (l.take 400)))) (hnc : n ≤ c) (hc : c ≤ 9223372036854775807) (hm : ¬ n ≤ 400) :
    Calls Try.prog 5 #[.int .i64 a0, .slice A n c] w fun e w' => e = .returned (.bool true) ∧ Below w.heap.size w w' := by
  have hm' : ¬ ((n : Int) ≤ 400) := by omega
  have hm2 : (400 : Int) ≤ (c : Int) := by omega
  have hm3 : 400 ≤ 400 := by omega
  obtain ⟨r, hr0⟩ : ∃ r : Nat, a0 % 64 = (r : Int) := Int.eq_ofNat_of_zero_le (mod_lo 64 a0 (by omega)).1
  have hr64 : r < 64 := by have := (mod_lo 64 a0 (by omega)).2; omega
  have hM : ∀ W : World, Calls Try.prog 27 #[.int .i64 a0, .int .i64 64] W fun e w' => e = .returned (.int .i64 (r : Int)) ∧ W = w' := fun W => by rw [← hr0]; exact mod_any a0 64 (by omega) (by omega) W
  have HM := Lib.hid hM
  clear hM hr0
  go_enter Try.func5, Try.ntmps5
  go_wp2_with fail
  go_quiet ((go_at_call 27; exact quiet_left (HM.out _)))
  obtain ⟨T, hT⟩ : ∃ T : Nat, 1 + (r : Int) = (T : Int) := ⟨r + 1, by omega⟩
  have hT1 : 1 ≤ T := by omega
  have hT2 : T ≤ 64 := by omega
  rw [hT]
  obtain ⟨w0, hw0⟩ : ∃ w0, w.drewN nq = w0 := ⟨_, rfl⟩
  have r0 : Hid (Reads w0 w0.heap.size 1 A 400 (ints (l.take 400))) := by rw [← hw0]; exact hr.out.drewN nq
  have hb0 : Hid (Below w.heap.size w w0) := by rw [← hw0]; exact below_drewN (Below.refl _ _) nq
  rw [hw0]
  clear hw0 hr HM hT
  obtain ⟨L, hL⟩ : ∃ L, (l.take 400) = L := ⟨_, rfl⟩
  rw [hL] at r0
  clear hL
  have hLn : Hid (L.length = 400) := by have := r0.out.1; rw [ints_len] at this; unfold Hid; omega
  have hck : Hid (chk T 0 (400 : Nat) = 0) := by unfold Hid chk; rw [if_neg (by omega), if_neg (by omega)]
  have hcl : Hid (chL T L = chl T L) := by unfold Hid chL; rw [hLn.out, if_pos hck.out]
  have hcn : Hid (cnL T L = cnts T (chl T L)) := by unfold Hid cnL; rw [hLn.out, if_pos hck.out]; rfl
  have hcll : Hid ((chl T L).length = 400) := by unfold Hid; rw [chl_len]; exact hLn.out
  have hcb := Lib.hid (chl_bd T (by omega) L)
  go_wp2_with fail
  refine (chosen_res T L A 400 c w0 r0).mono ?_
  rintro e w1 ⟨Aa, ca, hE, ho, hb⟩
  rw [hcl.out, hcll.out, hck.out] at hE
  rw [hcl.out, hcll.out] at ho
  subst hE
  obtain ⟨z, ka, ka'⟩ := own_reads ho
  clear ho
  have hb1 := below_on hb0 hb
  have l1 := reads_on r0 hb
  have a1 := z
  clear hb0 hb r0
  clear z
  go_wp2_with fail
  refine (counts_res T L A 400 c w1 l1).mono ?_
  rintro e w2 ⟨Ak, ck, hE, ho, hb⟩
  rw [hcn.out, cnts_len, hck.out] at hE
  rw [hcn.out, cnts_len] at ho
  subst hE
  obtain ⟨z, kk, kk'⟩ := own_reads ho
  clear ho
  have hb2 := below_on hb1 hb
  have l2 := reads_on l1 hb
  have a2 := reads_on a1 hb
  have k2 := z
  clear hb1 hb l1 a1
  clear z
  go_wp2_with fail
  obtain ⟨cl, hcle⟩ : ∃ cl, chl T L = cl := ⟨_, rfl⟩
  have HWC : Hid (∀ q : Nat, (wo T q L).length + cnt cl q = 400) := fun q => by rw [← hcle, ← hLn.out]; exact wo_cnt T q L
  have HWF : Hid (∀ q : Nat, chl T (wo T q L) = cl.filter (fun x => decide (x ≠ (q : Int)))) := fun q => by rw [← hcle]; exact wo_chl T q L
  rw [hcle] at hcll hcb a2 k2
  clear hcle hcl hcn
  have hstart := hb2
  clear hb2
  go_loopg [9, 10] T (fun g s i wr => ∃ q : Nat, q + g = T ∧ i = .int .i64 q ∧ s = .int .i64 (sumC cl q : Nat) ∧ Hid (Below w2.heap.size w2 wr))
  case atStart => exact ⟨0, by omega, rfl, rfl, Below.refl _ _⟩
  case round =>
    obtain ⟨q, hq, rfl, rfl, hbel⟩ := hrel
    have hsl := sumC_le cl q
    rw [hcll.out] at hsl
    have hsl2 : sumC cl q ≤ 25600 := Nat.le_trans hsl (Nat.le_trans (Nat.mul_le_mul (show q ≤ 64 by omega) (show 400 ≤ 400 by omega)) (by decide))
    cases gk with
    | zero =>
      obtain rfl : T = q := by omega
      have hall := sumC_all T cl hcb.out
      rw [hcll.out] at hall
      rw [hall]
      clear hall hsl hsl2
      go_wp2_with fail
      refine (awake_any _).mono ?_
      rintro e w9 ⟨rfl, hb⟩
      have hbe := below_on (below_on hstart hbel.out) hb
      clear hb
      go_wp2_with fail
      go_ret
      exact ⟨by simp, hbe.out⟩
    | succ g =>
      have hq2 : (q : Int) < (T : Int) := by omega
      have hckq : Hid (chk T q (400 : Nat) = 0) := by unfold Hid chk; rw [if_neg (by omega), if_neg (by omega)]
      have hwl : Hid (woL T q L = wo T q L) := by unfold Hid woL; rw [hLn.out, if_pos hckq.out]
      have hwc := HWC.out q
      have hwf := Lib.hid (HWF.out q)
      obtain ⟨wl, hwle⟩ : ∃ wl, wo T q L = wl := ⟨_, rfl⟩
      rw [hwle] at hwl hwc hwf
      clear hwle
      obtain ⟨N2, hN2⟩ : ∃ N2, wl.length = N2 := ⟨_, rfl⟩
      rw [hN2] at hwc
      have hN2' := Lib.hid hN2
      have hck2 : Hid (chk T 0 (N2 : Nat) = 0) := by unfold Hid chk; rw [if_neg (by omega), if_neg (by omega)]
      have hcl2 : Hid (chL T wl = cl.filter (fun x => decide (x ≠ (q : Int)))) := by unfold Hid chL; rw [hN2, if_pos hck2.out]; exact hwf.out
      have hfl : Hid ((cl.filter (fun x => decide (x ≠ (q : Int)))).length = N2) := by unfold Hid; rw [← hwf.out, chl_len, hN2]
      have l9 := reads_on l2 hbel.out
      have a9 := reads_on a2 hbel.out
      have k9 := reads_on k2 hbel.out
      have hbel9 := hbel
      clear hN2 hwf hbel hsl
      go_wp2_with fail
      refine (without_res T q L A 400 c wr l9).mono ?_
      rintro e w11 ⟨Ax, cx, hE, ho, hb⟩
      rw [hwl.out, hN2'.out, hckq.out] at hE
      rw [hwl.out, hN2'.out] at ho
      subst hE
      obtain ⟨z, kx, kx'⟩ := own_reads ho
      clear ho
      have hb11 := below_on hbel9 hb
      have l11 := reads_on l9 hb
      have a11 := reads_on a9 hb
      have k11 := reads_on k9 hb
      have x11 := z
      clear hbel9 hb l9 a9 k9
      clear z
      go_wp2_with fail
      refine (chosen_res T wl Ax N2 cx w11 x11).mono ?_
      rintro e w12 ⟨Ay, cy, hE, ho, hb⟩
      rw [hcl2.out, hfl.out, hck2.out] at hE
      rw [hcl2.out, hfl.out] at ho
      subst hE
      obtain ⟨z, ky, ky'⟩ := own_reads ho
      clear ho
      have hb12 := below_on hb11 hb
      have l12 := reads_on l11 hb
      have a12 := reads_on a11 hb
      have k12 := reads_on k11 hb
      have y12 := z
      clear hb11 hb l11 a11 k11 x11
      clear z
      go_wp2_with fail
      obtain ⟨i0, hi0, hz0, hz1, hz2⟩ := info_parts infoInt
      go_loopg [15, 16] 400 (fun g s i wr => ∃ k : Nat, k + g = 400 ∧ i = .int .i64 k ∧ Hid (wr.ownsRow w12.heap.size 3 1 s ((cl.take k).filter (fun x => decide (x ≠ (q : Int)))).length (ints ((cl.take k).filter (fun x => decide (x ≠ (q : Int)))))) ∧ Hid (Below w12.heap.size w12 wr))
      case atStart => exact ⟨0, by omega, rfl, World.ownsRow_nil _ _ _ _, Below.refl _ _⟩
      case round =>
        obtain ⟨k, hk, rfl, hown, hbel⟩ := hrel
        cases gk with
        | zero =>
          obtain rfl : k = 400 := by omega
          have htk : Hid (cl.take 400 = cl) := List.take_of_length_le (by rw [hcll.out]; exact Nat.le_refl _)
          rw [htk.out, hfl.out] at hown
          obtain ⟨Aw, cw, rfl, _⟩ := own_form hown.out
          obtain ⟨zw, kw, kw'⟩ := own_reads hown.out
          have y7 := reads_on y12 hbel.out
          have k7 := reads_on k12 hbel.out
          have b7 := below_on hb12 hbel.out
          obtain ⟨ad, u, rfl, hadb, hx, hcell⟩ := k7.out.at_ (show q < T by omega)
          obtain ⟨v, hv, rfl⟩ := ints_get _ q hx
          obtain rfl : (cnt cl q : Int) = v := Option.some.inj ((cnts_get (show q < T by omega)).symm.trans hv)
          have hcq := cnt_le cl q
          rw [hcll.out] at hcq
          have q0 : (0 : Int) ≤ (q : Int) := by omega
          have e9 : (N2 : Int) = (400 : Int) - (cnt cl q : Int) := by omega
          have hs2 : sumC cl (q + 1) = sumC cl q + cnt cl q := rfl
          have hcc : cnt cl q ≤ 400 := by omega
          generalize cnt cl q = cq at *
          clear hx hv
          go_wp2_with fail
          refine (eq_same _ Ay Aw N2 N2 cy cw wr y7 zw (by omega)).mono ?_
          rintro e w8 ⟨rfl, hb⟩
          have b8 := below_on b7 hb
          have hcell8 := (hb.cell (show (ad.add q).block < wr.heap.size by rw [block_of_add]; exact hadb)).trans hcell
          clear hb
          go_wp2_with fail
          go_roundg g
          case measure => omega
          case rel => exact ⟨q + 1, by omega, by go_num, congrArg (Value.int .i64) (by omega), b8⟩
        | succ g2 =>
          have k0 : (0 : Int) ≤ (k : Int) := by omega
          have k1 : (k : Int) < (400 : Int) := by omega
          obtain ⟨ad, u, rfl, _, hx, hcell⟩ := (reads_on a12 hbel.out).out.at_ (show k < 400 by omega)
          obtain ⟨v, hv, rfl⟩ := ints_get _ k hx
          clear hx
          have hfle : ((cl.take k).filter (fun x => decide (x ≠ (q : Int)))).length ≤ 400 := Nat.le_trans (List.length_filter_le _ _) (by rw [List.length_take]; omega)
          by_cases hvq : v = (q : Int)
          · have hfm := Lib.hid (filt_miss hv hvq)
            clear hv
            subst hvq
            go_wp2_with fail
            go_roundg g2
            case measure => omega
            case rel => exact ⟨k + 1, by omega, by go_num, by rw [hfm.out]; exact hown, hbel⟩
          · have hfh := Lib.hid (filt_hit hv hvq)
            have hsz := Lib.hid hbel.out.size
            clear hv
            generalize hos : (cl.take k).filter (fun x => decide (x ≠ (q : Int))) = os at *
            go_wp2_with (at_builtin; refine wpList_append_own _ rfl _ _ 22 rfl w12.heap.size 3 i0 (.int .i64 0) 1 8 Try.underlying22 hi0 hz0 hz1 hz2 rfl (by decide) u15 os.length (ints os) rfl (hown.out.alloc _) ⟨wr.heap.size, 0, none⟩ 1 1 [.int .i64 v] rfl rfl (cell_one_new _ _ _) (by simp [Value.oneCell']) (by unfold maxLen; omega) (by omega) (by have := hsz.out; simp; omega) ?_; intro v' w5 hown' hgrow _)
            have hbel' : Hid (Below w12.heap.size w12 w5) := (hbel.out.alloc hsz.out _).grown hgrow (by have := hsz.out; simp; omega) (fun q hq => (hown.out.lt q hq).1)
            have hown2 : Hid (w5.ownsRow w12.heap.size 3 1 v' (os ++ [v]).length (ints (os ++ [v]))) := by
              unfold Hid
              rw [ints_append, List.length_append]
              exact hown'
            clear hown' hgrow
            go_wp2
            go_roundg g2
            case measure => omega
            case rel => exact ⟨k + 1, by omega, by go_num, by rw [hfh.out]; exact hown2, hbel'⟩

theorem part_law (a0 : Int) (A : Option Addr) (n c : Nat) (l : List Int) (w : World) (w0 : (Lit.int .i64 a0).wf = true) (h : IsInts w A n c l) :
    Calls Try.prog 5 #[.int .i64 a0, .slice A n c] w fun e w' => e = .returned (.bool true) ∧ Below w.heap.size w w' := by
  have hcap := h.cap
  unfold maxLen at hcap
  by_cases hm : n ≤ 400
  · exact part_a a0 A n c l w h.reads h.le hcap hm
  · have hr : Reads w w.heap.size 1 A 400 (ints (l.take 400)) := by
      rw [← ints_take]
      exact h.reads.take_ (by omega)
    exact part_b a0 A n c l w hr h.le hcap hm
end Go.Proofs.Ytjpmhofpfmogiaa
