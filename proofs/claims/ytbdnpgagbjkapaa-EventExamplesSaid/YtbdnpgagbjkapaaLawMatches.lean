/- The law EventMatches, walked (printed by gen_lawmatch.py). -/
import Derived.Test.YtbdnpgagbjkapaaAwake
import Derived.Test.YtbdnpgagbjkapaaWrt
import Derived.Test.YtbdnpgagbjkapaaOpenE
import Derived.Deep.LoopGhost
namespace Go.Proofs.Ytbdnpgagbjkapaa
open Go Go.RowKit
set_option linter.unusedVariables false

set_option maxRecDepth 100000 in
set_option maxHeartbeats 8000000 in
theorem matches_core (A : Option Addr) (n c : Nat) (l : List Ev) (w : World) (hr : Hid (Reads w w.heap.size 4 A n (evs l))) (hnc : n ≤ c) (hcap : c ≤ 9223372036854775807) :
    Calls Try.prog 3 #[.slice A n c] w fun e w' => e = .returned (.bool true) ∧ Below w.heap.size w w' := by
  have hLn := take_len80 l
  have hF : Hid (∀ W : World, Hid (Reads W W.heap.size 4 A n (evs l)) → Calls Try.prog 9 #[.slice A n c] W (EvOne (l.take 80) W)) := fun W h => few_at l A n c W h hnc hcap
  go_enter Try.func3, Try.ntmps3
  go_wp2_with fail
  refine (hF.out _ hr).mono ?_
  rintro e w1 ⟨A1, N, c1, rfl, hN, ho, hb⟩
  have hr1 := reads_on hr hb
  obtain ⟨hi1, k1, k1'⟩ := own_reads ho
  have hstart := Lib.hid hb
  clear hr hb ho
  generalize l.take 80 = L at *
  have hNH : Hid (L.length = N) := hN.symm
  rw [← hN] at hLn
  obtain ⟨n1, hn1⟩ : ∃ n1, (secL 1 L).length = n1 := ⟨_, rfl⟩
  have bn1 : n1 ≤ 80 := by have := secL_len 1 L; omega
  have Hn1 := Lib.hid hn1
  clear hn1
  obtain ⟨n2, hn2⟩ : ∃ n2, (secL 3 L).length = n2 := ⟨_, rfl⟩
  have bn2 : n2 ≤ 80 := by have := secL_len 3 L; omega
  have Hn2 := Lib.hid hn2
  clear hn2
  clear hN
  go_wp2_with fail
  go_loopg [4] 2 (fun g i wr => ∃ q : Nat, q + g = 2 ∧ i = .int .i64 q ∧ Hid (Below w1.heap.size w1 wr))
  case atStart => exact ⟨0, by omega, rfl, Below.refl _ _⟩
  case round =>
    obtain ⟨q, hq, rfl, hbel⟩ := hrel
    cases gk with
    | zero =>
      obtain rfl : q = 2 := by omega
      go_wp2_with fail
      refine (awake_any _).mono ?_
      rintro e w2 ⟨rfl, hb⟩
      have hbe := below_on (below_on hstart hbel.out) hb
      clear hb
      go_wp2_with fail
      go_ret
      exact ⟨rfl, hbe.out⟩
    | succ g =>
      have hq2 : (q : Int) < 2 := by omega
      have i0 := reads_on hi1 hbel.out
      have r0 := reads_on hr1 hbel.out
      go_wp2_with fail
      refine (check_at L A1 N c1 wr i0 (by omega)).mono ?_
      rintro e w11 ⟨rfl, hb⟩
      have hb11 := below_on hbel hb
      have i11 := reads_on i0 hb
      have r11 := reads_on r0 hb
      clear hbel hb i0 r0
      go_wp2_with fail
      refine (hF.out w11 r11).mono ?_
      rintro e w12 ⟨Af1, nf1, cf1, rfl, hn, ho, hb⟩
      obtain rfl : N = nf1 := (hn.trans hNH.out).symm
      obtain ⟨z, kf1, kf1'⟩ := own_reads ho
      clear ho hn
      have hb12 := below_on hb11 hb
      have i12 := reads_on i11 hb
      have r12 := reads_on r11 hb
      have f112 := z
      clear hb11 hb i11 r11
      clear z
      go_wp2_with fail
      refine (rcheck_at L Af1 N cf1 w12 f112 (by omega)).mono ?_
      rintro e w13 ⟨rfl, hb⟩
      have hb13 := below_on hb12 hb
      have i13 := reads_on i12 hb
      have r13 := reads_on r12 hb
      clear hb12 hb i12 r12 f112
      go_wp2_with fail
      refine (sections_at L A1 N c1 w13 i13 (by omega)).mono ?_
      rintro e w14 ⟨Aa, na, ca, rfl, hn, ho, hb⟩
      obtain rfl : n1 = na := (hn.trans Hn1.out).symm
      obtain ⟨z, ka, ka'⟩ := own_reads ho
      have zw := wrt_new ho hb13
      clear ho hn
      have hb14 := below_on hb13 hb
      have i14 := reads_on i13 hb
      have r14 := reads_on r13 hb
      have a14 := z
      have aw14 := zw
      clear hb13 hb i13 r13
      clear z zw
      go_wp2_with fail
      refine (hF.out w14 r14).mono ?_
      rintro e w15 ⟨Af2, nf2, cf2, rfl, hn, ho, hb⟩
      obtain rfl : N = nf2 := (hn.trans hNH.out).symm
      obtain ⟨z, kf2, kf2'⟩ := own_reads ho
      clear ho hn
      have hb15 := below_on hb14 hb
      have i15 := reads_on i14 hb
      have r15 := reads_on r14 hb
      have a15 := reads_on a14 hb
      have aw15 := wrt_on aw14 hb
      have f215 := z
      clear hb14 hb i14 r14 a14 aw14
      clear z
      go_wp2_with fail
      refine (rsections_at L Af2 N cf2 w15 f215 (by omega)).mono ?_
      rintro e w16 ⟨Ab, nb, cb, rfl, hn, ho, hb⟩
      obtain rfl : n1 = nb := (hn.trans Hn1.out).symm
      obtain ⟨z, kb, kb'⟩ := own_reads ho
      clear ho hn
      have hb16 := below_on hb15 hb
      have i16 := reads_on i15 hb
      have r16 := reads_on r15 hb
      have a16 := reads_on a15 hb
      have aw16 := wrt_on aw15 hb
      have b16 := z
      clear hb15 hb i15 r15 a15 aw15 f215
      clear z
      go_wp2_with fail
      refine (waits_at L A1 N c1 w16 i16 (by omega)).mono ?_
      rintro e w17 ⟨Ac, nc, cc, rfl, hn, ho, hb⟩
      obtain rfl : n2 = nc := (hn.trans Hn2.out).symm
      obtain ⟨z, kc, kc'⟩ := own_reads ho
      have zw := wrt_new ho hb16
      clear ho hn
      have hb17 := below_on hb16 hb
      have i17 := reads_on i16 hb
      have r17 := reads_on r16 hb
      have a17 := reads_on a16 hb
      have aw17 := wrt_on aw16 hb
      have b17 := reads_on b16 hb
      have c17 := z
      have cw17 := zw
      clear hb16 hb i16 r16 a16 aw16 b16
      clear z zw
      go_wp2_with fail
      refine (hF.out w17 r17).mono ?_
      rintro e w18 ⟨Af3, nf3, cf3, rfl, hn, ho, hb⟩
      obtain rfl : N = nf3 := (hn.trans hNH.out).symm
      obtain ⟨z, kf3, kf3'⟩ := own_reads ho
      clear ho hn
      have hb18 := below_on hb17 hb
      have i18 := reads_on i17 hb
      have r18 := reads_on r17 hb
      have a18 := reads_on a17 hb
      have aw18 := wrt_on aw17 hb
      have b18 := reads_on b17 hb
      have c18 := reads_on c17 hb
      have cw18 := wrt_on cw17 hb
      have f318 := z
      clear hb17 hb i17 r17 a17 aw17 b17 c17 cw17
      clear z
      go_wp2_with fail
      refine (rwaits_at L Af3 N cf3 w18 f318 (by omega)).mono ?_
      rintro e w19 ⟨Ad, nd, cd, rfl, hn, ho, hb⟩
      obtain rfl : n2 = nd := (hn.trans Hn2.out).symm
      obtain ⟨z, kd, kd'⟩ := own_reads ho
      clear ho hn
      have hb19 := below_on hb18 hb
      have i19 := reads_on i18 hb
      have r19 := reads_on r18 hb
      have a19 := reads_on a18 hb
      have aw19 := wrt_on aw18 hb
      have b19 := reads_on b18 hb
      have c19 := reads_on c18 hb
      have cw19 := wrt_on cw18 hb
      have d19 := z
      clear hb18 hb i18 r18 a18 aw18 b18 c18 cw18 f318
      clear z
      generalize atL L = e1 at *
      generalize errL L = e2 at *
      go_wp2_with fail
      refine (sameSe _ Aa Ab n1 n1 ca cb w19 a19 b19 (by omega)).mono ?_
      rintro e w20 ⟨rfl, hb⟩
      have hb20 := below_on hb19 hb
      have i20 := reads_on i19 hb
      have r20 := reads_on r19 hb
      have aw20 := wrt_on aw19 hb
      have c20 := reads_on c19 hb
      have cw20 := wrt_on cw19 hb
      have d20 := reads_on d19 hb
      clear hb19 hb i19 r19 a19 aw19 b19 c19 cw19 d19
      go_wp2_with fail
      refine (sameWa _ Ac Ad n2 n2 cc cd w20 c20 d20 (by omega)).mono ?_
      rintro e w21 ⟨rfl, hb⟩
      have hb21 := below_on hb20 hb
      have i21 := reads_on i20 hb
      have r21 := reads_on r20 hb
      have aw21 := wrt_on aw20 hb
      have cw21 := wrt_on cw20 hb
      clear hb20 hb i20 r20 aw20 c20 cw20 d20
      go_wp2_with fail
      refine (hF.out w21 r21).mono ?_
      rintro e w22 ⟨Af4, nf4, cf4, rfl, hn, ho, hb⟩
      obtain rfl : N = nf4 := (hn.trans hNH.out).symm
      obtain ⟨z, kf4, kf4'⟩ := own_reads ho
      clear ho hn
      have hb22 := below_on hb21 hb
      have i22 := reads_on i21 hb
      have r22 := reads_on r21 hb
      have aw22 := wrt_on aw21 hb
      have cw22 := wrt_on cw21 hb
      have f422 := z
      clear hb21 hb i21 r21 aw21 cw21
      clear z
      go_wp2_with fail
      refine (sameEv L A1 Af4 N N c1 cf4 w22 i22 f422 (by omega)).mono ?_
      rintro e w23 ⟨rfl, hb⟩
      have hb23 := below_on hb22 hb
      have aw23 := wrt_on aw22 hb
      have cw23 := wrt_on cw22 hb
      clear hb22 hb i22 r22 aw22 cw22 f422
      go_wp2_with fail
      go_loopg [17] n1 (fun g i wr => ∃ k : Nat, k + g = n1 ∧ i = .int .i64 k ∧ Hid (Wrt 41 wr w1.heap.size Aa n1) ∧ Hid (Wrt 43 wr w1.heap.size Ac n2) ∧ Hid (Below w1.heap.size w1 wr))
      case atStart => exact ⟨0, by omega, rfl, aw23.out, cw23.out, hb23.out⟩
      case round =>
        clear aw23 cw23 hb23
        obtain ⟨k, hk, rfl, ha, hc, hbel⟩ := hrel
        cases gk with
        | zero =>
          obtain rfl : n1 = k := by omega
          go_wp2_with fail
          go_loopg [18] n2 (fun g i wr => ∃ k : Nat, k + g = n2 ∧ i = .int .i64 k ∧ Hid (Wrt 41 wr w1.heap.size Aa n1) ∧ Hid (Wrt 43 wr w1.heap.size Ac n2) ∧ Hid (Below w1.heap.size w1 wr))
          case atStart => exact ⟨0, by omega, rfl, ha.out, hc.out, hbel.out⟩
          case round =>
            clear ha hc hbel
            obtain ⟨k, hk, rfl, ha, hc, hbel⟩ := hrel
            cases gk with
            | zero =>
              obtain rfl : n2 = k := by omega
              go_wp2_with fail
              go_roundg g
              case measure => omega
              case rel => exact ⟨q + 1, by omega, by go_num, hbel⟩
            | succ g2 =>
              obtain ⟨gb, u0, u1, u2, u3, rfl, hgb, hgl, ⟨d0, d1, d2, d3⟩, f0, f1, f2, f3⟩ := hc.out.at_ (show k < n2 by omega)
              have k0 : (0 : Int) ≤ (k : Int) := by omega
              have k1 : (k : Int) < (n2 : Int) := by omega
              have k2 : k ≤ 65537 := by omega
              have za := ha.out.set4 gb (k * 4) (.int .i64 0) (.int .u64 0) (.int .i64 0) (.int .i64 0)
              have zc := hc.out.set4 gb (k * 4) (.int .i64 0) (.int .u64 0) (.int .i64 0) (.int .i64 0)
              have zbel := below_set4 (k := k * 4) hbel hgb (.int .i64 0) (.int .u64 0) (.int .i64 0) (.int .i64 0)
              clear hgl
              go_wp2_with fail
              go_roundg g2
              case measure => omega
              case rel => exact ⟨k + 1, by omega, by go_num, za, zc, zbel⟩
        | succ g2 =>
          obtain ⟨gb, u0, u1, u2, u3, rfl, hgb, hgl, ⟨d0, d1, d2, d3⟩, f0, f1, f2, f3⟩ := ha.out.at_ (show k < n1 by omega)
          have k0 : (0 : Int) ≤ (k : Int) := by omega
          have k1 : (k : Int) < (n1 : Int) := by omega
          have k2 : k ≤ 65537 := by omega
          have za := ha.out.set4 gb (k * 4) (.int .i64 0) (.int .u64 0) (.int .i64 0) (.int .i64 0)
          have zc := hc.out.set4 gb (k * 4) (.int .i64 0) (.int .u64 0) (.int .i64 0) (.int .i64 0)
          have zbel := below_set4 (k := k * 4) hbel hgb (.int .i64 0) (.int .u64 0) (.int .i64 0) (.int .i64 0)
          clear hgl
          go_wp2_with fail
          go_roundg g2
          case measure => omega
          case rel => exact ⟨k + 1, by omega, by go_num, za, zc, zbel⟩
theorem matches_law (A : Option Addr) (n c : Nat) (l : List Ev) (w : World) (hI : IsEvents w A n c l) :
    Calls Try.prog 3 #[.slice A n c] w fun e w' => e = .returned (.bool true) ∧ Below w.heap.size w w' :=
  matches_core A n c l w hI.reads hI.le (by have := hI.cap; unfold maxLen at this; exact this)
end Go.Proofs.Ytbdnpgagbjkapaa
