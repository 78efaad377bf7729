/- The law PicksMatches, walked (printed by gen_lawmatch.py). -/
import Derived.Test.YtjpmhofpfmogiaaAwake
import Derived.Test.YtjpmhofpfmogiaaOpen
import Derived.Deep.LoopGhost
namespace Go.Proofs.Ytjpmhofpfmogiaa
open Go Go.RowKit
set_option linter.unusedVariables false

/-- A slice whose cells may be written: all in one block of ints at or beyond B. -/
def Wrt (w : World) (B : Nat) (A : Option Addr) (n : Nat) : Prop := n = 0 ∨ ∃ g cs, A = some ⟨g, 0, none⟩ ∧ B ≤ g ∧ Blk w g 3 cs ∧ n ≤ cs.size
theorem Wrt.of_own {w : World} {base n c : Nat} {A : Option Addr} {xs : List Value} (h : w.ownsRow base 3 1 (.slice A n c) n xs) : Wrt w base A n := by
  rcases h.2 with ⟨h0, h1⟩ | ⟨g, cap, cur, h0, hg, hh, hn, _, hs, _⟩
  · exact .inl (by omega)
  · injection h0 with h1 h2 h3
    refine .inr ⟨g, cur, h1, hg, hh, ?_⟩
    rw [hs]
    omega
theorem Wrt.less {w : World} {B B' n : Nat} {A : Option Addr} (h : Wrt w B A n) (hB : B' ≤ B) : Wrt w B' A n := by
  rcases h with h | ⟨g, cs, h1, h2, h3⟩
  · exact .inl h
  · exact .inr ⟨g, cs, h1, Nat.le_trans hB h2, h3⟩
theorem Wrt.below {w w' : World} {B n : Nat} {A : Option Addr} (h : Wrt w B A n) (hb : Below w.heap.size w w') : Wrt w' B A n := by
  rcases h with h | ⟨g, cs, h1, h2, h3, h4⟩
  · exact .inl h
  · exact .inr ⟨g, cs, h1, h2, h3.below hb h3.lt, h4⟩
theorem Wrt.set {w : World} {B n : Nat} {A : Option Addr} (h : Wrt w B A n) (g k : Nat) (u : Value) : Wrt (w.setCell ⟨g, k, none⟩ u) B A n := by
  rcases h with h | ⟨g', cs, h1, h2, h3, h4⟩
  · exact .inl h
  · by_cases hg : g' = g
    · subst hg
      exact .inr ⟨g', _, h1, h2, h3.set_ k u, by simpa using h4⟩
    · exact .inr ⟨g', cs, h1, h2, h3.far hg u, h4⟩
theorem Wrt.at_ {w : World} {B n k : Nat} {A : Option Addr} (h : Wrt w B A n) (hk : k < n) : ∃ g u, A = some ⟨g, 0, none⟩ ∧ B ≤ g ∧ w.cell? ⟨g, k, none⟩ = some u ∧ w.frozen? ⟨g, k, none⟩ = false := by
  rcases h with h | ⟨g, cs, h1, h2, h3, h4⟩
  · omega
  · exact ⟨g, cs[k], h1, h2, by rw [h3.cell]; exact Array.getElem?_eq_getElem (by omega), h3.frozen k⟩
theorem wrt_on {w w' : World} {B n : Nat} {A : Option Addr} (h : Hid (Wrt w B A n)) (hb : Below w.heap.size w w') : Hid (Wrt w' B A n) := h.out.below hb
theorem wrt_new {w0 w w' : World} {n c : Nat} {A : Option Addr} {xs : List Value} (h : w'.ownsRow w.heap.size 3 1 (.slice A n c) n xs) (hb : Hid (Below w0.heap.size w0 w)) : Hid (Wrt w' w0.heap.size A n) := (Wrt.of_own h).less hb.out.size

theorem chL_len (t : Int) (l : List Int) : (chL t l).length ≤ l.length := by
  unfold chL
  split
  · rw [chl_len]; exact Nat.le_refl _
  · simp
theorem cnL_len (t : Int) (l : List Int) : (cnL t l).length ≤ 64 := by
  unfold cnL
  rcases chk_cases t 0 l.length with ⟨h, hc⟩ | ⟨h1, h2, h3, h4, h5, hc⟩ | ⟨h1, h2, h3, h4, h5, hc⟩
  · rw [if_neg (by omega)]; simp
  · rw [if_neg (by omega)]; simp
  · rw [if_pos hc, cnts_len]; omega
theorem woL_len (t a : Int) (l : List Int) : (woL t a l).length ≤ l.length := by
  unfold woL
  split
  · exact List.length_filter_le _ _
  · simp

theorem rthread_at (t p a er : Int) (h1 : (if vld t then p % t else 0) = a) (h2 : (if vld t then 0 else 2) = er) (w : World) :
    Calls Try.prog 22 #[.int .i64 t, .int .i64 p] w fun e w' => e = .returned (.tuple #[.int .i64 a, .int .i64 er]) ∧ w = w' := by
  subst h1
  subst h2
  exact rthread_any t p w
set_option maxRecDepth 100000 in
set_option maxHeartbeats 8000000 in
theorem matches_core (t a : Int) (A : Option Addr) (n c : Nat) (l : List Int) (w : World) (hr : Hid (Reads w w.heap.size 1 A n (ints l))) (hnc : n ≤ c) (hcap : c ≤ 9223372036854775807) :
    Calls Try.prog 3 #[.int .i64 t, .int .i64 a, .slice A n c] w fun e w' => e = .returned (.bool true) ∧ Below w.heap.size w w' := by
  have hLn := (fewL_len l).1
  have hc1 := chL_len t (fewL l)
  have hc2 := cnL_len t (fewL l)
  have hc3 := woL_len t a (fewL l)
  go_enter Try.func3, Try.ntmps3
  go_wp2_with fail
  refine (few_any l A n c _ hr hnc (by omega)).mono ?_
  have hF : Hid (∀ W : World, Reads W W.heap.size 1 A n (ints l) → Calls Try.prog 11 #[.slice A n c] W (CopyEnd (fewL l) (fewL l).length W)) := fun W h => few_any l A n c W h hnc (by omega)
  rintro e w1 ⟨A1, c1, rfl, ho, hb⟩
  have hr1 := reads_on hr hb
  obtain ⟨hi1, k1, k1'⟩ := own_reads ho
  have hstart := Lib.hid hb
  clear hr hb ho
  generalize fewL l = L at *
  obtain ⟨N, hN⟩ : ∃ N, L.length = N := ⟨_, rfl⟩
  have hNH := Lib.hid hN
  rw [hN] at hi1 k1 hLn hc1 hc3
  rw [hN]
  clear hN
  go_wp2_with fail
  go_loopg [8] 2 (fun g i wr => ∃ q : Nat, q + g = 2 ∧ i = .int .i64 q ∧ Hid (Below w1.heap.size w1 wr))
  case atStart => exact ⟨0, by omega, rfl, Below.refl _ _⟩
  case round =>
    obtain ⟨q, hq, rfl, hbel⟩ := hrel
    cases gk with
    | zero =>
      obtain rfl : q = 2 := by omega
      obtain ⟨x1, hx1⟩ : ∃ x1, (if vld t then a % t else 0) = x1 := ⟨_, rfl⟩
      obtain ⟨x2, hx2⟩ : ∃ x2 : Int, (if vld t then 0 else 2) = x2 := ⟨_, rfl⟩
      go_wp2_with fail
      refine (thread_at t a x1 x2 hx1 hx2 _).mono ?_
      rintro e w' ⟨rfl, rfl⟩
      go_wp2_with fail
      refine (rthread_at t a x1 x2 hx1 hx2 _).mono ?_
      rintro e w' ⟨rfl, rfl⟩
      clear hx1 hx2
      go_wp2_with fail
      refine (awake_any _).mono ?_
      rintro e w2 ⟨rfl, hb⟩
      have hbe := below_on (below_on hstart hbel.out) hb
      clear hb
      go_wp2_with fail
      go_ret
      exact ⟨by simp, hbe.out⟩
    | succ g =>
      have hq2 : (q : Int) < 2 := by omega
      have i0 := reads_on hi1 hbel.out
      have r0 := reads_on hr1 hbel.out
      go_wp2_with fail
      refine (chosen_res t L A1 N c1 wr i0).mono ?_
      rintro e w11 ⟨Aa, ca, rfl, ho, hb⟩
      obtain ⟨z, ka, ka'⟩ := own_reads ho
      have zw := wrt_new ho hbel
      clear ho
      have hb11 := below_on hbel hb
      have i11 := reads_on i0 hb
      have r11 := reads_on r0 hb
      have a11 := z
      have aw11 := zw
      clear hbel hb i0 r0
      clear z zw
      go_wp2_with fail
      refine (hF.out w11 r11.out).mono ?_
      rintro e w12 ⟨Af, cf, rfl, ho, hb⟩
      rw [hNH.out] at ho
      obtain ⟨z, kf, kf'⟩ := own_reads ho
      clear ho
      have hb12 := below_on hb11 hb
      have i12 := reads_on i11 hb
      have r12 := reads_on r11 hb
      have a12 := reads_on a11 hb
      have aw12 := wrt_on aw11 hb
      have f12 := z
      clear hb11 hb i11 r11 a11 aw11
      clear z
      rw [hNH.out]
      go_wp2_with fail
      refine (rchosen_res t L Af N cf w12 f12).mono ?_
      rintro e w13 ⟨Ab, cb, rfl, ho, hb⟩
      obtain ⟨z, kb, kb'⟩ := own_reads ho
      clear ho
      have hb13 := below_on hb12 hb
      have i13 := reads_on i12 hb
      have r13 := reads_on r12 hb
      have a13 := reads_on a12 hb
      have aw13 := wrt_on aw12 hb
      have b13 := z
      clear hb12 hb i12 r12 a12 aw12 f12
      clear z
      go_wp2_with fail
      refine (counts_res t L A1 N c1 w13 i13).mono ?_
      rintro e w14 ⟨Ac, cc, rfl, ho, hb⟩
      obtain ⟨z, kc, kc'⟩ := own_reads ho
      have zw := wrt_new ho hb13
      clear ho
      have hb14 := below_on hb13 hb
      have i14 := reads_on i13 hb
      have r14 := reads_on r13 hb
      have a14 := reads_on a13 hb
      have aw14 := wrt_on aw13 hb
      have b14 := reads_on b13 hb
      have c14 := z
      have cw14 := zw
      clear hb13 hb i13 r13 a13 aw13 b13
      clear z zw
      go_wp2_with fail
      refine (hF.out w14 r14.out).mono ?_
      rintro e w15 ⟨Af2, cf2, rfl, ho, hb⟩
      rw [hNH.out] at ho
      obtain ⟨z, kf2, kf2'⟩ := own_reads ho
      clear ho
      have hb15 := below_on hb14 hb
      have i15 := reads_on i14 hb
      have r15 := reads_on r14 hb
      have a15 := reads_on a14 hb
      have aw15 := wrt_on aw14 hb
      have b15 := reads_on b14 hb
      have c15 := reads_on c14 hb
      have cw15 := wrt_on cw14 hb
      have f215 := z
      clear hb14 hb i14 r14 a14 aw14 b14 c14 cw14
      clear z
      rw [hNH.out]
      go_wp2_with fail
      refine (rcounts_res t L Af2 N cf2 w15 f215).mono ?_
      rintro e w16 ⟨Ad, cd, rfl, ho, hb⟩
      obtain ⟨z, kd, kd'⟩ := own_reads ho
      clear ho
      have hb16 := below_on hb15 hb
      have i16 := reads_on i15 hb
      have r16 := reads_on r15 hb
      have a16 := reads_on a15 hb
      have aw16 := wrt_on aw15 hb
      have b16 := reads_on b15 hb
      have c16 := reads_on c15 hb
      have cw16 := wrt_on cw15 hb
      have d16 := z
      clear hb15 hb i15 r15 a15 aw15 b15 c15 cw15 f215
      clear z
      go_wp2_with fail
      refine (without_res t a L A1 N c1 w16 i16).mono ?_
      rintro e w17 ⟨Ax, cx, rfl, ho, hb⟩
      obtain ⟨z, kx, kx'⟩ := own_reads ho
      have zw := wrt_new ho hb16
      clear ho
      have hb17 := below_on hb16 hb
      have i17 := reads_on i16 hb
      have r17 := reads_on r16 hb
      have a17 := reads_on a16 hb
      have aw17 := wrt_on aw16 hb
      have b17 := reads_on b16 hb
      have c17 := reads_on c16 hb
      have cw17 := wrt_on cw16 hb
      have d17 := reads_on d16 hb
      have x17 := z
      have xw17 := zw
      clear hb16 hb i16 r16 a16 aw16 b16 c16 cw16 d16
      clear z zw
      go_wp2_with fail
      refine (hF.out w17 r17.out).mono ?_
      rintro e w18 ⟨Af3, cf3, rfl, ho, hb⟩
      rw [hNH.out] at ho
      obtain ⟨z, kf3, kf3'⟩ := own_reads ho
      clear ho
      have hb18 := below_on hb17 hb
      have i18 := reads_on i17 hb
      have r18 := reads_on r17 hb
      have a18 := reads_on a17 hb
      have aw18 := wrt_on aw17 hb
      have b18 := reads_on b17 hb
      have c18 := reads_on c17 hb
      have cw18 := wrt_on cw17 hb
      have d18 := reads_on d17 hb
      have x18 := reads_on x17 hb
      have xw18 := wrt_on xw17 hb
      have f318 := z
      clear hb17 hb i17 r17 a17 aw17 b17 c17 cw17 d17 x17 xw17
      clear z
      rw [hNH.out]
      go_wp2_with fail
      refine (rwithout_res t a L Af3 N cf3 w18 f318).mono ?_
      rintro e w19 ⟨Ay, cy, rfl, ho, hb⟩
      obtain ⟨z, ky, ky'⟩ := own_reads ho
      clear ho
      have hb19 := below_on hb18 hb
      have i19 := reads_on i18 hb
      have r19 := reads_on r18 hb
      have a19 := reads_on a18 hb
      have aw19 := wrt_on aw18 hb
      have b19 := reads_on b18 hb
      have c19 := reads_on c18 hb
      have cw19 := wrt_on cw18 hb
      have d19 := reads_on d18 hb
      have x19 := reads_on x18 hb
      have xw19 := wrt_on xw18 hb
      have y19 := z
      clear hb18 hb i18 r18 a18 aw18 b18 c18 cw18 d18 x18 xw18 f318
      clear z
      go_wp2_with fail
      refine (gap_res t a L A1 N c1 w19 i19).mono ?_
      rintro e w20 ⟨rfl, hb⟩
      have hb20 := below_on hb19 hb
      have i20 := reads_on i19 hb
      have r20 := reads_on r19 hb
      have a20 := reads_on a19 hb
      have aw20 := wrt_on aw19 hb
      have b20 := reads_on b19 hb
      have c20 := reads_on c19 hb
      have cw20 := wrt_on cw19 hb
      have d20 := reads_on d19 hb
      have x20 := reads_on x19 hb
      have xw20 := wrt_on xw19 hb
      have y20 := reads_on y19 hb
      clear hb19 hb i19 r19 a19 aw19 b19 c19 cw19 d19 x19 xw19 y19
      go_wp2_with fail
      refine (hF.out w20 r20.out).mono ?_
      rintro e w21 ⟨Af4, cf4, rfl, ho, hb⟩
      rw [hNH.out] at ho
      obtain ⟨z, kf4, kf4'⟩ := own_reads ho
      clear ho
      have hb21 := below_on hb20 hb
      have i21 := reads_on i20 hb
      have r21 := reads_on r20 hb
      have a21 := reads_on a20 hb
      have aw21 := wrt_on aw20 hb
      have b21 := reads_on b20 hb
      have c21 := reads_on c20 hb
      have cw21 := wrt_on cw20 hb
      have d21 := reads_on d20 hb
      have x21 := reads_on x20 hb
      have xw21 := wrt_on xw20 hb
      have y21 := reads_on y20 hb
      have f421 := z
      clear hb20 hb i20 r20 a20 aw20 b20 c20 cw20 d20 x20 xw20 y20
      clear z
      rw [hNH.out]
      go_wp2_with fail
      refine (rgap_res t a L Af4 N cf4 w21 f421).mono ?_
      rintro e w22 ⟨rfl, hb⟩
      have hb22 := below_on hb21 hb
      have i22 := reads_on i21 hb
      have r22 := reads_on r21 hb
      have a22 := reads_on a21 hb
      have aw22 := wrt_on aw21 hb
      have b22 := reads_on b21 hb
      have c22 := reads_on c21 hb
      have cw22 := wrt_on cw21 hb
      have d22 := reads_on d21 hb
      have x22 := reads_on x21 hb
      have xw22 := wrt_on xw21 hb
      have y22 := reads_on y21 hb
      clear hb21 hb i21 r21 a21 aw21 b21 c21 cw21 d21 x21 xw21 y21 f421
      generalize hk1 : chk t 0 N = e1 at *
      generalize hk2 : chk t a N = e2 at *
      generalize gaN t a L = gn at *
      clear hk1 hk2
      obtain ⟨n1, hn1⟩ : ∃ n1, (chL t L).length = n1 := ⟨_, rfl⟩
      obtain ⟨n2, hn2⟩ : ∃ n2, (cnL t L).length = n2 := ⟨_, rfl⟩
      obtain ⟨n3, hn3⟩ : ∃ n3, (woL t a L).length = n3 := ⟨_, rfl⟩
      rw [hn1] at hc1 a22 aw22 b22 ka kb ⊢
      rw [hn2] at hc2 c22 cw22 d22 kc kd ⊢
      rw [hn3] at hc3 x22 xw22 y22 kx ky ⊢
      clear hn1 hn2 hn3
      go_wp2_with fail
      refine (eq_same _ Aa Ab n1 n1 ca cb w22 a22 b22 (by omega)).mono ?_
      rintro e w23 ⟨rfl, hb⟩
      have hb23 := below_on hb22 hb
      have i23 := reads_on i22 hb
      have r23 := reads_on r22 hb
      have aw23 := wrt_on aw22 hb
      have c23 := reads_on c22 hb
      have cw23 := wrt_on cw22 hb
      have d23 := reads_on d22 hb
      have x23 := reads_on x22 hb
      have xw23 := wrt_on xw22 hb
      have y23 := reads_on y22 hb
      clear hb22 hb i22 r22 a22 aw22 b22 c22 cw22 d22 x22 xw22 y22
      go_wp2_with fail
      refine (eq_same _ Ac Ad n2 n2 cc cd w23 c23 d23 (by omega)).mono ?_
      rintro e w24 ⟨rfl, hb⟩
      have hb24 := below_on hb23 hb
      have i24 := reads_on i23 hb
      have r24 := reads_on r23 hb
      have aw24 := wrt_on aw23 hb
      have cw24 := wrt_on cw23 hb
      have x24 := reads_on x23 hb
      have xw24 := wrt_on xw23 hb
      have y24 := reads_on y23 hb
      clear hb23 hb i23 r23 aw23 c23 cw23 d23 x23 xw23 y23
      go_wp2_with fail
      refine (eq_same _ Ax Ay n3 n3 cx cy w24 x24 y24 (by omega)).mono ?_
      rintro e w25 ⟨rfl, hb⟩
      have hb25 := below_on hb24 hb
      have i25 := reads_on i24 hb
      have r25 := reads_on r24 hb
      have aw25 := wrt_on aw24 hb
      have cw25 := wrt_on cw24 hb
      have xw25 := wrt_on xw24 hb
      clear hb24 hb i24 r24 aw24 cw24 x24 xw24 y24
      go_wp2_with fail
      refine (hF.out w25 r25.out).mono ?_
      rintro e w26 ⟨Af5, cf5, rfl, ho, hb⟩
      rw [hNH.out] at ho
      obtain ⟨z, kf5, kf5'⟩ := own_reads ho
      clear ho
      have hb26 := below_on hb25 hb
      have i26 := reads_on i25 hb
      have r26 := reads_on r25 hb
      have aw26 := wrt_on aw25 hb
      have cw26 := wrt_on cw25 hb
      have xw26 := wrt_on xw25 hb
      have f526 := z
      clear hb25 hb i25 r25 aw25 cw25 xw25
      clear z
      rw [hNH.out]
      go_wp2_with fail
      refine (eq_same L A1 Af5 N N c1 cf5 w26 i26 f526 (by omega)).mono ?_
      rintro e w27 ⟨rfl, hb⟩
      have hb27 := below_on hb26 hb
      have aw27 := wrt_on aw26 hb
      have cw27 := wrt_on cw26 hb
      have xw27 := wrt_on xw26 hb
      clear hb26 hb i26 r26 aw26 cw26 xw26 f526
      go_wp2_with fail
      go_loopg [25] n1 (fun g i wr => ∃ k : Nat, k + g = n1 ∧ i = .int .i64 k ∧ Hid (Wrt wr w1.heap.size Aa n1) ∧ Hid (Wrt wr w1.heap.size Ac n2) ∧ Hid (Wrt wr w1.heap.size Ax n3) ∧ Hid (Below w1.heap.size w1 wr))
      case atStart => exact ⟨0, by omega, rfl, aw27.out, cw27.out, xw27.out, hb27.out⟩
      case round =>
        clear aw27 cw27 xw27 hb27
        obtain ⟨k, hk, rfl, ha, hc, hx, hbel⟩ := hrel
        cases gk with
        | zero =>
          obtain rfl : n1 = k := by omega
          go_wp2_with fail
          go_loopg [26] n2 (fun g i wr => ∃ k : Nat, k + g = n2 ∧ i = .int .i64 k ∧ Hid (Wrt wr w1.heap.size Aa n1) ∧ Hid (Wrt wr w1.heap.size Ac n2) ∧ Hid (Wrt wr w1.heap.size Ax n3) ∧ Hid (Below w1.heap.size w1 wr))
          case atStart => exact ⟨0, by omega, rfl, ha.out, hc.out, hx.out, hbel.out⟩
          case round =>
            clear ha hc hx hbel
            obtain ⟨k, hk, rfl, ha, hc, hx, hbel⟩ := hrel
            cases gk with
            | zero =>
              obtain rfl : n2 = k := by omega
              go_wp2_with fail
              go_loopg [27] n3 (fun g i wr => ∃ k : Nat, k + g = n3 ∧ i = .int .i64 k ∧ Hid (Wrt wr w1.heap.size Aa n1) ∧ Hid (Wrt wr w1.heap.size Ac n2) ∧ Hid (Wrt wr w1.heap.size Ax n3) ∧ Hid (Below w1.heap.size w1 wr))
              case atStart => exact ⟨0, by omega, rfl, ha.out, hc.out, hx.out, hbel.out⟩
              case round =>
                clear ha hc hx hbel
                obtain ⟨k, hk, rfl, ha, hc, hx, hbel⟩ := hrel
                cases gk with
                | zero =>
                  obtain rfl : n3 = k := by omega
                  go_wp2_with fail
                  go_roundg g
                  case measure => omega
                  case rel => exact ⟨q + 1, by omega, by go_num, hbel⟩
                | succ g2 =>
                  obtain ⟨gb, u, rfl, hgb, hcell, hfz⟩ := hx.out.at_ (show k < n3 by omega)
                  have k0 : (0 : Int) ≤ (k : Int) := by omega
                  have k1 : (k : Int) < (n3 : Int) := by omega
                  have k2 : k ≤ 65537 := by omega
                  have ha2 := Lib.hid (ha.out.set gb k (.int .i64 (-7)))
                  have hc2' := Lib.hid (hc.out.set gb k (.int .i64 (-7)))
                  have hx2 := Lib.hid (hx.out.set gb k (.int .i64 (-7)))
                  have hbel2 : Hid (Below w1.heap.size w1 (wr.setCell ⟨gb, k, none⟩ (.int .i64 (-7)))) := hbel.out.setCell hgb _
                  go_wp2_with fail
                  go_roundg g2
                  case measure => omega
                  case rel => exact ⟨k + 1, by omega, by go_num, ha2, hc2', hx2, hbel2⟩
            | succ g2 =>
              obtain ⟨gb, u, rfl, hgb, hcell, hfz⟩ := hc.out.at_ (show k < n2 by omega)
              have k0 : (0 : Int) ≤ (k : Int) := by omega
              have k1 : (k : Int) < (n2 : Int) := by omega
              have k2 : k ≤ 65537 := by omega
              have ha2 := Lib.hid (ha.out.set gb k (.int .i64 (-7)))
              have hc2' := Lib.hid (hc.out.set gb k (.int .i64 (-7)))
              have hx2 := Lib.hid (hx.out.set gb k (.int .i64 (-7)))
              have hbel2 : Hid (Below w1.heap.size w1 (wr.setCell ⟨gb, k, none⟩ (.int .i64 (-7)))) := hbel.out.setCell hgb _
              go_wp2_with fail
              go_roundg g2
              case measure => omega
              case rel => exact ⟨k + 1, by omega, by go_num, ha2, hc2', hx2, hbel2⟩
        | succ g2 =>
          obtain ⟨gb, u, rfl, hgb, hcell, hfz⟩ := ha.out.at_ (show k < n1 by omega)
          have k0 : (0 : Int) ≤ (k : Int) := by omega
          have k1 : (k : Int) < (n1 : Int) := by omega
          have k2 : k ≤ 65537 := by omega
          have ha2 := Lib.hid (ha.out.set gb k (.int .i64 (-7)))
          have hc2' := Lib.hid (hc.out.set gb k (.int .i64 (-7)))
          have hx2 := Lib.hid (hx.out.set gb k (.int .i64 (-7)))
          have hbel2 : Hid (Below w1.heap.size w1 (wr.setCell ⟨gb, k, none⟩ (.int .i64 (-7)))) := hbel.out.setCell hgb _
          go_wp2_with fail
          go_roundg g2
          case measure => omega
          case rel => exact ⟨k + 1, by omega, by go_num, ha2, hc2', hx2, hbel2⟩
theorem matches_law (t a : Int) (A : Option Addr) (n c : Nat) (l : List Int) (w : World) (wt : (Lit.int .i64 t).wf = true) (wa : (Lit.int .i64 a).wf = true) (hI : IsInts w A n c l) :
    Calls Try.prog 3 #[.int .i64 t, .int .i64 a, .slice A n c] w fun e w' => e = .returned (.bool true) ∧ Below w.heap.size w w' :=
  matches_core t a A n c l w hI.reads hI.le (by have := hI.cap; unfold maxLen at this; exact this)
end Go.Proofs.Ytjpmhofpfmogiaa
