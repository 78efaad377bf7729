/- The law EventLooks, walked (printed by gen_lawmatch.py). -/
import Derived.Test.YtbdnpgagbjkapaaAwake
import Derived.Test.YtbdnpgagbjkapaaWrt
import Derived.Test.YtbdnpgagbjkapaaOpenE
import Derived.Deep.LoopGhost
namespace Go.Proofs.Ytbdnpgagbjkapaa
open Go Go.RowKit
set_option linter.unusedVariables false

set_option maxRecDepth 100000 in
set_option maxHeartbeats 8000000 in
theorem looks_core (tt t : Int) (A : Option Addr) (n c : Nat) (l : List Ev) (w : World) (hr : Hid (Reads w w.heap.size 4 A n (evs l))) (hnc : n ≤ c) (hcap : c ≤ 9223372036854775807) :
    Calls Try.prog 6 #[.int .i64 tt, .int .i64 t, .slice A n c] w fun e w' => e = .returned (.bool true) ∧ Below w.heap.size w w' := by
  have hLn := take_len80 l
  have hF : Hid (∀ W : World, Hid (Reads W W.heap.size 4 A n (evs l)) → Calls Try.prog 9 #[.slice A n c] W (EvOne (l.take 80) W)) := fun W h => few_at l A n c W h hnc hcap
  go_enter Try.func6, Try.ntmps6
  go_wp2_with fail
  refine (hF.out _ hr).mono ?_
  rintro e w1 ⟨A1, N, c1, rfl, hN, ho, hb⟩
  have hr1 := reads_on hr hb
  obtain ⟨hi1, k1, k1'⟩ := own_reads ho
  have hstart := Lib.hid hb
  clear hr hb ho
  generalize l.take 80 = L at *
  have hNH : Hid (L.length = N) := hN.symm
  rw [← hN] at hLn
  obtain ⟨n1, hn1⟩ : ∃ n1, (opnL L t).length = n1 := ⟨_, rfl⟩
  have bn1 : n1 ≤ 80 := by have := opnL_len L t; omega
  have Hn1 := Lib.hid hn1
  clear hn1
  obtain ⟨n2, hn2⟩ : ∃ n2, (preL L t).length = n2 := ⟨_, rfl⟩
  have bn2 : n2 ≤ 80 := by have := preL_len L t; omega
  have Hn2 := Lib.hid hn2
  clear hn2
  obtain ⟨n3, hn3⟩ : ∃ n3, (ofL L tt).length = n3 := ⟨_, rfl⟩
  have bn3 : n3 ≤ 80 := by have := ofL_len L tt; omega
  have Hn3 := Lib.hid hn3
  clear hn3
  clear hN
  go_wp2_with fail
  go_loopg [8] 2 (fun g i wr => ∃ q : Nat, q + g = 2 ∧ i = .int .i64 q ∧ Hid (Below w1.heap.size w1 wr))
  case atStart => exact ⟨0, by omega, rfl, Below.refl _ _⟩
  case round =>
    obtain ⟨q, hq, rfl, hbel⟩ := hrel
    cases gk with
    | zero =>
      obtain rfl : q = 2 := by omega
      go_wp2_with fail
      refine (awake_any _).mono ?_
      rintro e w2 ⟨rfl, hb⟩
      have hbe := below_on (below_on hstart hbel.out) hb
      clear hb
      go_wp2_with fail
      go_ret
      exact ⟨rfl, hbe.out⟩
    | succ g =>
      have hq2 : (q : Int) < 2 := by omega
      have i0 := reads_on hi1 hbel.out
      have r0 := reads_on hr1 hbel.out
      obtain ⟨R, hR⟩ : ∃ R, insR L tt t = R := ⟨_, rfl⟩
      obtain ⟨⟨s1, s2, s3, s4⟩, ib, ier⟩ := R
      have HR := Lib.hid hR
      clear hR
      obtain ⟨ler, hler⟩ : ∃ z, lookEr L t = z := ⟨_, rfl⟩
      have HL := Lib.hid hler
      clear hler
      go_wp2_with fail
      refine (open_at L A1 N c1 wr i0 (by omega) t).mono ?_
      rintro e w11 ⟨Aa, na, ca, hE, hn, ho, hb⟩
      rw [HL.out] at hE
      subst hE
      obtain rfl : n1 = na := (hn.trans Hn1.out).symm
      obtain ⟨z, ka, ka'⟩ := own_reads ho
      have zw := wrt_new ho hbel
      clear ho hn
      have hb11 := below_on hbel hb
      have i11 := reads_on i0 hb
      have r11 := reads_on r0 hb
      have a11 := z
      have aw11 := zw
      clear hbel hb i0 r0
      clear z zw
      go_wp2_with fail
      refine (hF.out w11 r11).mono ?_
      rintro e w12 ⟨Af1, nf1, cf1, rfl, hn, ho, hb⟩
      obtain rfl : N = nf1 := (hn.trans hNH.out).symm
      obtain ⟨z, kf1, kf1'⟩ := own_reads ho
      clear ho hn
      have hb12 := below_on hb11 hb
      have i12 := reads_on i11 hb
      have r12 := reads_on r11 hb
      have a12 := reads_on a11 hb
      have aw12 := wrt_on aw11 hb
      have f112 := z
      clear hb11 hb i11 r11 a11 aw11
      clear z
      go_wp2_with fail
      refine (ropen_at L Af1 N cf1 w12 f112 (by omega) t).mono ?_
      rintro e w13 ⟨Ab, nb, cb, hE, hn, ho, hb⟩
      rw [HL.out] at hE
      subst hE
      obtain rfl : n1 = nb := (hn.trans Hn1.out).symm
      obtain ⟨z, kb, kb'⟩ := own_reads ho
      clear ho hn
      have hb13 := below_on hb12 hb
      have i13 := reads_on i12 hb
      have r13 := reads_on r12 hb
      have a13 := reads_on a12 hb
      have aw13 := wrt_on aw12 hb
      have b13 := z
      clear hb12 hb i12 r12 a12 aw12 f112
      clear z
      go_wp2_with fail
      refine (inside_at L A1 N c1 w13 i13 (by omega) tt t).mono ?_
      rintro e w14 ⟨hE, hb⟩
      rw [HR.out] at hE
      dsimp only at hE
      subst hE
      have hb14 := below_on hb13 hb
      have i14 := reads_on i13 hb
      have r14 := reads_on r13 hb
      have a14 := reads_on a13 hb
      have aw14 := wrt_on aw13 hb
      have b14 := reads_on b13 hb
      clear hb13 hb i13 r13 a13 aw13 b13
      have hb : Below w14.heap.size w14 (w14.alloc (.cells #[.int .i64 s1, .int .u64 s2, .int .i64 s3, .int .i64 s4] 41)) := (Below.refl _ _).alloc (Nat.le_refl _) _
      have hb15 := below_on hb14 hb
      have i15 := reads_on i14 hb
      have r15 := reads_on r14 hb
      have a15 := reads_on a14 hb
      have aw15 := wrt_on aw14 hb
      have b15 := reads_on b14 hb
      have x15 : Hid (Blk (w14.alloc (.cells #[.int .i64 s1, .int .u64 s2, .int .i64 s3, .int .i64 s4] 41)) w14.heap.size 41 #[.int .i64 s1, .int .u64 s2, .int .i64 s3, .int .i64 s4]) := Blk.new w14 _ _
      clear hb14 hb i14 r14 a14 aw14 b14
      go_wp2_with fail
      refine (hF.out (w14.alloc (.cells #[.int .i64 s1, .int .u64 s2, .int .i64 s3, .int .i64 s4] 41)) r15).mono ?_
      rintro e w16 ⟨Af2, nf2, cf2, rfl, hn, ho, hb⟩
      obtain rfl : N = nf2 := (hn.trans hNH.out).symm
      obtain ⟨z, kf2, kf2'⟩ := own_reads ho
      clear ho hn
      have hb16 := below_on hb15 hb
      have i16 := reads_on i15 hb
      have r16 := reads_on r15 hb
      have a16 := reads_on a15 hb
      have aw16 := wrt_on aw15 hb
      have b16 := reads_on b15 hb
      have x16 := Lib.hid (x15.out.below hb x15.out.lt)
      have f216 := z
      clear hb15 hb i15 r15 a15 aw15 b15 x15
      clear z
      go_wp2_with fail
      refine (rinside_at L Af2 N cf2 w16 f216 (by omega) tt t).mono ?_
      rintro e w17 ⟨hE, hb⟩
      rw [HR.out] at hE
      dsimp only at hE
      subst hE
      have hb17 := below_on hb16 hb
      have i17 := reads_on i16 hb
      have r17 := reads_on r16 hb
      have a17 := reads_on a16 hb
      have aw17 := wrt_on aw16 hb
      have b17 := reads_on b16 hb
      have x17 := Lib.hid (x16.out.below hb x16.out.lt)
      clear hb16 hb i16 r16 a16 aw16 b16 x16 f216
      have hb : Below w17.heap.size w17 (w17.alloc (.cells #[.int .i64 s1, .int .u64 s2, .int .i64 s3, .int .i64 s4] 41)) := (Below.refl _ _).alloc (Nat.le_refl _) _
      have hb18 := below_on hb17 hb
      have i18 := reads_on i17 hb
      have r18 := reads_on r17 hb
      have a18 := reads_on a17 hb
      have aw18 := wrt_on aw17 hb
      have b18 := reads_on b17 hb
      have x18 := Lib.hid (x17.out.below hb x17.out.lt)
      have y18 : Hid (Blk (w17.alloc (.cells #[.int .i64 s1, .int .u64 s2, .int .i64 s3, .int .i64 s4] 41)) w17.heap.size 41 #[.int .i64 s1, .int .u64 s2, .int .i64 s3, .int .i64 s4]) := Blk.new w17 _ _
      clear hb17 hb i17 r17 a17 aw17 b17 x17
      go_wp2_with fail
      refine (prefix_at L A1 N c1 (w17.alloc (.cells #[.int .i64 s1, .int .u64 s2, .int .i64 s3, .int .i64 s4] 41)) i18 (by omega) t).mono ?_
      rintro e w19 ⟨Ac, nc, cc, hE, hn, ho, hb⟩
      rw [HL.out] at hE
      subst hE
      obtain rfl : n2 = nc := (hn.trans Hn2.out).symm
      obtain ⟨z, kc, kc'⟩ := own_reads ho
      have zw := wrt_new ho hb18
      clear ho hn
      have hb19 := below_on hb18 hb
      have i19 := reads_on i18 hb
      have r19 := reads_on r18 hb
      have a19 := reads_on a18 hb
      have aw19 := wrt_on aw18 hb
      have b19 := reads_on b18 hb
      have x19 := Lib.hid (x18.out.below hb x18.out.lt)
      have y19 := Lib.hid (y18.out.below hb y18.out.lt)
      have c19 := z
      have cw19 := zw
      clear hb18 hb i18 r18 a18 aw18 b18 x18 y18
      clear z zw
      go_wp2_with fail
      refine (hF.out w19 r19).mono ?_
      rintro e w20 ⟨Af3, nf3, cf3, rfl, hn, ho, hb⟩
      obtain rfl : N = nf3 := (hn.trans hNH.out).symm
      obtain ⟨z, kf3, kf3'⟩ := own_reads ho
      clear ho hn
      have hb20 := below_on hb19 hb
      have i20 := reads_on i19 hb
      have r20 := reads_on r19 hb
      have a20 := reads_on a19 hb
      have aw20 := wrt_on aw19 hb
      have b20 := reads_on b19 hb
      have x20 := Lib.hid (x19.out.below hb x19.out.lt)
      have y20 := Lib.hid (y19.out.below hb y19.out.lt)
      have c20 := reads_on c19 hb
      have cw20 := wrt_on cw19 hb
      have f320 := z
      clear hb19 hb i19 r19 a19 aw19 b19 x19 y19 c19 cw19
      clear z
      go_wp2_with fail
      refine (rprefix_at L Af3 N cf3 w20 f320 (by omega) t).mono ?_
      rintro e w21 ⟨Ad, nd, cd, hE, hn, ho, hb⟩
      rw [HL.out] at hE
      subst hE
      obtain rfl : n2 = nd := (hn.trans Hn2.out).symm
      obtain ⟨z, kd, kd'⟩ := own_reads ho
      clear ho hn
      have hb21 := below_on hb20 hb
      have i21 := reads_on i20 hb
      have r21 := reads_on r20 hb
      have a21 := reads_on a20 hb
      have aw21 := wrt_on aw20 hb
      have b21 := reads_on b20 hb
      have x21 := Lib.hid (x20.out.below hb x20.out.lt)
      have y21 := Lib.hid (y20.out.below hb y20.out.lt)
      have c21 := reads_on c20 hb
      have cw21 := wrt_on cw20 hb
      have d21 := z
      clear hb20 hb i20 r20 a20 aw20 b20 x20 y20 c20 cw20 f320
      clear z
      go_wp2_with fail
      refine (of_at L A1 N c1 w21 i21 (by omega) tt).mono ?_
      rintro e w22 ⟨Ap, np, cp, hE, hn, ho, hb⟩
      subst hE
      obtain rfl : n3 = np := (hn.trans Hn3.out).symm
      obtain ⟨z, kp, kp'⟩ := own_reads ho
      have zw := wrt_new ho hb21
      clear ho hn
      have hb22 := below_on hb21 hb
      have i22 := reads_on i21 hb
      have r22 := reads_on r21 hb
      have a22 := reads_on a21 hb
      have aw22 := wrt_on aw21 hb
      have b22 := reads_on b21 hb
      have x22 := Lib.hid (x21.out.below hb x21.out.lt)
      have y22 := Lib.hid (y21.out.below hb y21.out.lt)
      have c22 := reads_on c21 hb
      have cw22 := wrt_on cw21 hb
      have d22 := reads_on d21 hb
      have p22 := z
      have pw22 := zw
      clear hb21 hb i21 r21 a21 aw21 b21 x21 y21 c21 cw21 d21
      clear z zw
      go_wp2_with fail
      refine (hF.out w22 r22).mono ?_
      rintro e w23 ⟨Af4, nf4, cf4, rfl, hn, ho, hb⟩
      obtain rfl : N = nf4 := (hn.trans hNH.out).symm
      obtain ⟨z, kf4, kf4'⟩ := own_reads ho
      clear ho hn
      have hb23 := below_on hb22 hb
      have i23 := reads_on i22 hb
      have r23 := reads_on r22 hb
      have a23 := reads_on a22 hb
      have aw23 := wrt_on aw22 hb
      have b23 := reads_on b22 hb
      have x23 := Lib.hid (x22.out.below hb x22.out.lt)
      have y23 := Lib.hid (y22.out.below hb y22.out.lt)
      have c23 := reads_on c22 hb
      have cw23 := wrt_on cw22 hb
      have d23 := reads_on d22 hb
      have p23 := reads_on p22 hb
      have pw23 := wrt_on pw22 hb
      have f423 := z
      clear hb22 hb i22 r22 a22 aw22 b22 x22 y22 c22 cw22 d22 p22 pw22
      clear z
      go_wp2_with fail
      refine (rof_at L Af4 N cf4 w23 f423 (by omega) tt).mono ?_
      rintro e w24 ⟨Aq, nq, cq, hE, hn, ho, hb⟩
      subst hE
      obtain rfl : n3 = nq := (hn.trans Hn3.out).symm
      obtain ⟨z, kq, kq'⟩ := own_reads ho
      clear ho hn
      have hb24 := below_on hb23 hb
      have i24 := reads_on i23 hb
      have r24 := reads_on r23 hb
      have a24 := reads_on a23 hb
      have aw24 := wrt_on aw23 hb
      have b24 := reads_on b23 hb
      have x24 := Lib.hid (x23.out.below hb x23.out.lt)
      have y24 := Lib.hid (y23.out.below hb y23.out.lt)
      have c24 := reads_on c23 hb
      have cw24 := wrt_on cw23 hb
      have d24 := reads_on d23 hb
      have p24 := reads_on p23 hb
      have pw24 := wrt_on pw23 hb
      have q24 := z
      clear hb23 hb i23 r23 a23 aw23 b23 x23 y23 c23 cw23 d23 p23 pw23 f423
      clear z
      go_wp2_with fail
      refine (sameSe _ Aa Ab n1 n1 ca cb w24 a24 b24 (by omega)).mono ?_
      rintro e w25 ⟨rfl, hb⟩
      have hb25 := below_on hb24 hb
      have i25 := reads_on i24 hb
      have r25 := reads_on r24 hb
      have aw25 := wrt_on aw24 hb
      have x25 := Lib.hid (x24.out.below hb x24.out.lt)
      have y25 := Lib.hid (y24.out.below hb y24.out.lt)
      have c25 := reads_on c24 hb
      have cw25 := wrt_on cw24 hb
      have d25 := reads_on d24 hb
      have p25 := reads_on p24 hb
      have pw25 := wrt_on pw24 hb
      have q25 := reads_on q24 hb
      clear hb24 hb i24 r24 a24 aw24 b24 x24 y24 c24 cw24 d24 p24 pw24 q24
      have x0 := x25.out.cell 0
      have x1 := x25.out.cell 1
      have x2 := x25.out.cell 2
      have x3 := x25.out.cell 3
      simp only [List.getElem?_toArray, List.getElem?_cons_zero, List.getElem?_cons_succ] at x0 x1 x2 x3
      have y0 := y25.out.cell 0
      have y1 := y25.out.cell 1
      have y2 := y25.out.cell 2
      have y3 := y25.out.cell 3
      simp only [List.getElem?_toArray, List.getElem?_cons_zero, List.getElem?_cons_succ] at y0 y1 y2 y3
      have heq : ∀ w, (Op.equalIn 10000 41 (.agg #[.int .i64 s1, .int .u64 s2, .int .i64 s3, .int .i64 s4]) (.agg #[.int .i64 s1, .int .u64 s2, .int .i64 s3, .int .i64 s4])).run Try.prog w = .ok true w := fun w => by rw [eqSe]; simp
      go_wp2_with fail
      refine (sameEv _ Ac Ad n2 n2 cc cd w25 c25 d25 (by omega)).mono ?_
      rintro e w26 ⟨rfl, hb⟩
      clear heq x0 x1 x2 x3 y0 y1 y2 y3
      have hb26 := below_on hb25 hb
      have i26 := reads_on i25 hb
      have r26 := reads_on r25 hb
      have aw26 := wrt_on aw25 hb
      have cw26 := wrt_on cw25 hb
      have p26 := reads_on p25 hb
      have pw26 := wrt_on pw25 hb
      have q26 := reads_on q25 hb
      clear hb25 hb i25 r25 aw25 x25 y25 c25 cw25 d25 p25 pw25 q25
      go_wp2_with fail
      refine (sameEv _ Ap Aq n3 n3 cp cq w26 p26 q26 (by omega)).mono ?_
      rintro e w27 ⟨rfl, hb⟩
      have hb27 := below_on hb26 hb
      have i27 := reads_on i26 hb
      have r27 := reads_on r26 hb
      have aw27 := wrt_on aw26 hb
      have cw27 := wrt_on cw26 hb
      have pw27 := wrt_on pw26 hb
      clear hb26 hb i26 r26 aw26 cw26 p26 pw26 q26
      go_wp2_with fail
      refine (hF.out w27 r27).mono ?_
      rintro e w28 ⟨Af5, nf5, cf5, rfl, hn, ho, hb⟩
      obtain rfl : N = nf5 := (hn.trans hNH.out).symm
      obtain ⟨z, kf5, kf5'⟩ := own_reads ho
      clear ho hn
      have hb28 := below_on hb27 hb
      have i28 := reads_on i27 hb
      have r28 := reads_on r27 hb
      have aw28 := wrt_on aw27 hb
      have cw28 := wrt_on cw27 hb
      have pw28 := wrt_on pw27 hb
      have f528 := z
      clear hb27 hb i27 r27 aw27 cw27 pw27
      clear z
      go_wp2_with fail
      refine (sameEv L A1 Af5 N N c1 cf5 w28 i28 f528 (by omega)).mono ?_
      rintro e w29 ⟨rfl, hb⟩
      have hb29 := below_on hb28 hb
      have aw29 := wrt_on aw28 hb
      have cw29 := wrt_on cw28 hb
      have pw29 := wrt_on pw28 hb
      clear hb28 hb i28 r28 aw28 cw28 pw28 f528
      go_wp2_with fail
      go_loopg [25] n1 (fun g i wr => ∃ k : Nat, k + g = n1 ∧ i = .int .i64 k ∧ Hid (Wrt 41 wr w1.heap.size Aa n1) ∧ Hid (Wrt 58 wr w1.heap.size Ac n2) ∧ Hid (Wrt 58 wr w1.heap.size Ap n3) ∧ Hid (Below w1.heap.size w1 wr))
      case atStart => exact ⟨0, by omega, rfl, aw29.out, cw29.out, pw29.out, hb29.out⟩
      case round =>
        clear aw29 cw29 pw29 hb29
        obtain ⟨k, hk, rfl, ha, hc, hp, hbel⟩ := hrel
        cases gk with
        | zero =>
          obtain rfl : n1 = k := by omega
          go_wp2_with fail
          go_loopg [26] n2 (fun g i wr => ∃ k : Nat, k + g = n2 ∧ i = .int .i64 k ∧ Hid (Wrt 41 wr w1.heap.size Aa n1) ∧ Hid (Wrt 58 wr w1.heap.size Ac n2) ∧ Hid (Wrt 58 wr w1.heap.size Ap n3) ∧ Hid (Below w1.heap.size w1 wr))
          case atStart => exact ⟨0, by omega, rfl, ha.out, hc.out, hp.out, hbel.out⟩
          case round =>
            clear ha hc hp hbel
            obtain ⟨k, hk, rfl, ha, hc, hp, hbel⟩ := hrel
            cases gk with
            | zero =>
              obtain rfl : n2 = k := by omega
              go_wp2_with fail
              go_loopg [27] n3 (fun g i wr => ∃ k : Nat, k + g = n3 ∧ i = .int .i64 k ∧ Hid (Wrt 41 wr w1.heap.size Aa n1) ∧ Hid (Wrt 58 wr w1.heap.size Ac n2) ∧ Hid (Wrt 58 wr w1.heap.size Ap n3) ∧ Hid (Below w1.heap.size w1 wr))
              case atStart => exact ⟨0, by omega, rfl, ha.out, hc.out, hp.out, hbel.out⟩
              case round =>
                clear ha hc hp hbel
                obtain ⟨k, hk, rfl, ha, hc, hp, hbel⟩ := hrel
                cases gk with
                | zero =>
                  obtain rfl : n3 = k := by omega
                  go_wp2_with fail
                  go_roundg g
                  case measure => omega
                  case rel => exact ⟨q + 1, by omega, by go_num, hbel⟩
                | succ g2 =>
                  obtain ⟨gb, u0, u1, u2, u3, rfl, hgb, hgl, ⟨d0, d1, d2, d3⟩, f0, f1, f2, f3⟩ := hp.out.at_ (show k < n3 by omega)
                  have k0 : (0 : Int) ≤ (k : Int) := by omega
                  have k1 : (k : Int) < (n3 : Int) := by omega
                  have k2 : k ≤ 65537 := by omega
                  have za := ha.out.set4 gb (k * 4) (.int .i64 0) (.int .i64 0) (.int .u8 0) (.int .u64 0)
                  have zc := hc.out.set4 gb (k * 4) (.int .i64 0) (.int .i64 0) (.int .u8 0) (.int .u64 0)
                  have zp := hp.out.set4 gb (k * 4) (.int .i64 0) (.int .i64 0) (.int .u8 0) (.int .u64 0)
                  have zbel := below_set4 (k := k * 4) hbel hgb (.int .i64 0) (.int .i64 0) (.int .u8 0) (.int .u64 0)
                  clear hgl
                  go_wp2_with fail
                  go_roundg g2
                  case measure => omega
                  case rel => exact ⟨k + 1, by omega, by go_num, za, zc, zp, zbel⟩
            | succ g2 =>
              obtain ⟨gb, u0, u1, u2, u3, rfl, hgb, hgl, ⟨d0, d1, d2, d3⟩, f0, f1, f2, f3⟩ := hc.out.at_ (show k < n2 by omega)
              have k0 : (0 : Int) ≤ (k : Int) := by omega
              have k1 : (k : Int) < (n2 : Int) := by omega
              have k2 : k ≤ 65537 := by omega
              have za := ha.out.set4 gb (k * 4) (.int .i64 0) (.int .i64 0) (.int .u8 0) (.int .u64 0)
              have zc := hc.out.set4 gb (k * 4) (.int .i64 0) (.int .i64 0) (.int .u8 0) (.int .u64 0)
              have zp := hp.out.set4 gb (k * 4) (.int .i64 0) (.int .i64 0) (.int .u8 0) (.int .u64 0)
              have zbel := below_set4 (k := k * 4) hbel hgb (.int .i64 0) (.int .i64 0) (.int .u8 0) (.int .u64 0)
              clear hgl
              go_wp2_with fail
              go_roundg g2
              case measure => omega
              case rel => exact ⟨k + 1, by omega, by go_num, za, zc, zp, zbel⟩
        | succ g2 =>
          obtain ⟨gb, u0, u1, u2, u3, rfl, hgb, hgl, ⟨d0, d1, d2, d3⟩, f0, f1, f2, f3⟩ := ha.out.at_ (show k < n1 by omega)
          have k0 : (0 : Int) ≤ (k : Int) := by omega
          have k1 : (k : Int) < (n1 : Int) := by omega
          have k2 : k ≤ 65537 := by omega
          have za := ha.out.set4 gb (k * 4) (.int .i64 0) (.int .u64 0) (.int .i64 0) (.int .i64 0)
          have zc := hc.out.set4 gb (k * 4) (.int .i64 0) (.int .u64 0) (.int .i64 0) (.int .i64 0)
          have zp := hp.out.set4 gb (k * 4) (.int .i64 0) (.int .u64 0) (.int .i64 0) (.int .i64 0)
          have zbel := below_set4 (k := k * 4) hbel hgb (.int .i64 0) (.int .u64 0) (.int .i64 0) (.int .i64 0)
          clear hgl
          go_wp2_with fail
          go_roundg g2
          case measure => omega
          case rel => exact ⟨k + 1, by omega, by go_num, za, zc, zp, zbel⟩
theorem looks_law (tt t : Int) (A : Option Addr) (n c : Nat) (l : List Ev) (w : World) (w0 : (Lit.int .i64 tt).wf = true) (w1 : (Lit.int .i64 t).wf = true) (hI : IsEvents w A n c l) :
    Calls Try.prog 6 #[.int .i64 tt, .int .i64 t, .slice A n c] w fun e w' => e = .returned (.bool true) ∧ Below w.heap.size w w' :=
  looks_core tt t A n c l w hI.reads hI.le (by have := hI.cap; unfold maxLen at this; exact this)
end Go.Proofs.Ytbdnpgagbjkapaa
