/- GraceMatches walked for any events (printed by gen_lawgm.py). -/
import Derived.Test.YthkppihfdlmhgaaLawOver
import Derived.Test.YthkppihfdlmhgaaRGCheck
import Derived.Test.YthkppihfdlmhgaaRMust
import Derived.Test.YthkppihfdlmhgaaRLeast
namespace Go.Proofs.Ythkppihfdlmhgaa
open Go Go.RowKit
set_option linter.unusedVariables false

/-- A slice of numbers whose cells may be written. -/
def WrtI (w : World) (B : Nat) (A : Option Addr) (n : Nat) : Prop := n = 0 ∨ ∃ g cs, A = some ⟨g, 0, none⟩ ∧ B ≤ g ∧ Blk w g 3 cs ∧ n ≤ cs.size
theorem WrtI.set {w : World} {B n : Nat} {A : Option Addr} (h : WrtI w B A n) (g k : Nat) (u : Value) : WrtI (w.setCell ⟨g, k, none⟩ u) B A n := by
  rcases h with h | ⟨g', cs, h1, h2, h3, h4⟩
  · exact .inl h
  · by_cases hg : g' = g
    · subst hg
      exact .inr ⟨g', _, h1, h2, h3.set_ k u, by simpa using h4⟩
    · exact .inr ⟨g', cs, h1, h2, h3.far hg u, h4⟩
theorem WrtI.set4 {w : World} {B n : Nat} {A : Option Addr} (h : WrtI w B A n) (g k : Nat) (u0 u1 u2 u3 : Value) : Hid (WrtI ((((w.setCell ⟨g, k, none⟩ u0).setCell ⟨g, k + 1, none⟩ u1).setCell ⟨g, k + 2, none⟩ u2).setCell ⟨g, k + 3, none⟩ u3) B A n) :=
  (((h.set g k u0).set g (k + 1) u1).set g (k + 2) u2).set g (k + 3) u3
theorem WrtI.at_ {w : World} {B n : Nat} {A : Option Addr} {k : Nat} (h : WrtI w B A n) (hk : k < n) : ∃ g u0, A = some ⟨g, 0, none⟩ ∧ B ≤ g ∧ g < w.heap.size ∧ w.cell? ⟨g, k, none⟩ = some u0 ∧ w.frozen? ⟨g, k, none⟩ = false := by
  rcases h with h | ⟨g, cs, h1, h2, h3, h4⟩
  · omega
  · exact ⟨g, cs[k], h1, h2, h3.lt, by rw [h3.cell]; exact Array.getElem?_eq_getElem (by omega), h3.frozen _⟩
theorem wrtI_on {w w' : World} {B n : Nat} {A : Option Addr} (h : Hid (WrtI w B A n)) (hb : Below w.heap.size w w') : Hid (WrtI w' B A n) := by
  rcases h.out with h | ⟨g, cs, h1, h2, h3, h4⟩
  · exact .inl h
  · exact .inr ⟨g, cs, h1, h2, h3.below hb h3.lt, h4⟩
theorem wrtI_new {w0 w w' : World} {n c : Nat} {A : Option Addr} {xs : List Value} (h : w'.ownsRow w.heap.size 3 1 (.slice A n c) n xs) (hb : Hid (Below w0.heap.size w0 w)) : Hid (WrtI w' w0.heap.size A n) := by
  have hbs := hb.out.size
  rcases h.2 with ⟨h0, h1⟩ | ⟨g, cap, cur, h0, hg, hh, hn, _, hs, _⟩
  · exact .inl (by omega)
  · injection h0 with h1 h2 h3
    refine .inr ⟨g, cur, h1, Nat.le_trans hbs hg, hh, ?_⟩
    rw [hs]
    omega
theorem leaL_len (l : List Ev) : (leaL l).length ≤ l.length := by
  unfold leaL
  split
  · rw [List.length_map]
    exact secsK_len 3 l
  · simp
theorem muL_len (l : List Ev) (k : Int) : (muL l k).length ≤ l.length := by
  unfold muL
  split
  · split
    · exact Nat.le_trans (List.length_filter_le _ _) (secsK_len 1 l)
    · simp
  · simp

set_option maxRecDepth 100000 in
set_option maxHeartbeats 8000000 in
theorem gmatches_core (A : Option Addr) (n c : Nat) (l : List Ev) (kw : Int) (w : World) (hr : Hid (Reads w w.heap.size 4 A n (evs l))) (hnc : n ≤ c) (hc : c ≤ 9223372036854775807) (hw : WfE l) :
    Calls Try.prog 15 #[.slice A n c, .int .i64 kw] w fun e w' => e = .returned (.bool true) ∧ Below w.heap.size w w' := by
  have hLn := take_len80 l
  have hF : Hid (∀ W : World, Hid (Reads W W.heap.size 4 A n (evs l)) → Calls Try.prog 8 #[.slice A n c] W (EvOne (l.take 80) W)) := fun W h => few_at l A n c W h hnc hc
  have hwL : WfE (l.take 80) := wf_take hw 80
  go_enter Try.func15, Try.ntmps15
  go_wp2_with fail
  refine (hF.out _ hr).mono ?_
  rintro e w1 ⟨A1, N, c1, rfl, hN, ho, hb⟩
  have hr1 := reads_on hr hb
  obtain ⟨hi1, k1, k1'⟩ := own_reads ho
  have hstart := Lib.hid hb
  clear hr hb ho
  generalize l.take 80 = L at *
  have hNH : Hid (L.length = N) := hN.symm
  have hwH := Lib.hid hwL
  rw [← hN] at hLn
  obtain ⟨n1, hn1⟩ : ∃ n1, (leaL L).length = n1 := ⟨_, rfl⟩
  have bn1 : n1 ≤ 80 := by have := leaL_len L; omega
  have Hn1 := Lib.hid hn1
  clear hN hn1
  go_wp2_with fail
  go_loopg [6] 2 (fun g i wr => ∃ q : Nat, q + g = 2 ∧ i = .int .i64 q ∧ Hid (Below w1.heap.size w1 wr))
  case atStart => exact ⟨0, by omega, rfl, Below.refl _ _⟩
  case round =>
    obtain ⟨q, hq, rfl, hbel⟩ := hrel
    have i0 := reads_on hi1 hbel.out
    have r0 := reads_on hr1 hbel.out
    cases gk with
    | zero =>
      obtain rfl : q = 2 := by omega
      go_wp2_with fail
      refine (hF.out wr r0).mono ?_
      rintro e w11 ⟨Af5, nf5, cf5, rfl, hn, ho, hb⟩
      obtain rfl : N = nf5 := (hn.trans hNH.out).symm
      obtain ⟨z, kf5, kf5'⟩ := own_reads ho
      clear ho hn
      have hb11 := below_on hbel hb
      have i11 := reads_on i0 hb
      have r11 := reads_on r0 hb
      have f511 := z
      clear hbel hb i0 r0
      clear z
      go_wp2_with fail
      refine (sameEv L A1 Af5 N N c1 cf5 w11 i11 f511 (by omega)).mono ?_
      rintro e w12 ⟨rfl, hb⟩
      have hb12 := below_on hb11 hb
      clear hb11 hb i11 r11 f511
      go_wp2_with fail
      refine (awake_any w12).mono ?_
      rintro e w13 ⟨rfl, hb⟩
      have hb13 := below_on hb12 hb
      clear hb12 hb
      have hbe := below_on hstart hb13.out
      go_wp2_with fail
      go_ret
      exact ⟨rfl, hbe.out⟩
    | succ g =>
      have hq2 : (q : Int) < 2 := by omega
      go_wp2_with fail
      refine (gcheck_at L A1 N c1 wr i0 (by omega) hwH).mono ?_
      rintro e w11 ⟨rfl, hb⟩
      have hb11 := below_on hbel hb
      have i11 := reads_on i0 hb
      have r11 := reads_on r0 hb
      clear hbel hb i0 r0
      go_wp2_with fail
      refine (hF.out w11 r11).mono ?_
      rintro e w12 ⟨Af1, nf1, cf1, rfl, hn, ho, hb⟩
      obtain rfl : N = nf1 := (hn.trans hNH.out).symm
      obtain ⟨z, kf1, kf1'⟩ := own_reads ho
      clear ho hn
      have hb12 := below_on hb11 hb
      have i12 := reads_on i11 hb
      have r12 := reads_on r11 hb
      have f112 := z
      clear hb11 hb i11 r11
      clear z
      go_wp2_with fail
      refine (rgcheck_at L Af1 N cf1 w12 f112 (by omega) hwH).mono ?_
      rintro e w13 ⟨rfl, hb⟩
      have hb13 := below_on hb12 hb
      have i13 := reads_on i12 hb
      have r13 := reads_on r12 hb
      clear hb12 hb i12 r12 f112
      go_wp2_with fail
      refine (gleast_any L A1 N c1 w13 i13 (by omega) hwH).mono ?_
      rintro e w14 ⟨Aa, na, ca, rfl, hn, ho, hb⟩
      obtain rfl : n1 = na := (hn.out.trans Hn1.out).symm
      obtain ⟨z, ka, ka'⟩ := own_reads ho.out
      have zw := wrtI_new ho.out hb13
      clear ho hn
      have hb14 := below_on hb13 hb
      have i14 := reads_on i13 hb
      have r14 := reads_on r13 hb
      have a14 := z
      have aw14 := zw
      clear hb13 hb i13 r13
      clear z zw
      go_wp2_with fail
      refine (hF.out w14 r14).mono ?_
      rintro e w15 ⟨Af2, nf2, cf2, rfl, hn, ho, hb⟩
      obtain rfl : N = nf2 := (hn.trans hNH.out).symm
      obtain ⟨z, kf2, kf2'⟩ := own_reads ho
      clear ho hn
      have hb15 := below_on hb14 hb
      have i15 := reads_on i14 hb
      have r15 := reads_on r14 hb
      have a15 := reads_on a14 hb
      have aw15 := wrtI_on aw14 hb
      have f215 := z
      clear hb14 hb i14 r14 a14 aw14
      clear z
      go_wp2_with fail
      refine (rleast_any L Af2 N cf2 w15 f215 (by omega) hwH).mono ?_
      rintro e w16 ⟨Ab, nb, cb, rfl, hn, ho, hb⟩
      obtain rfl : n1 = nb := (hn.out.trans Hn1.out).symm
      obtain ⟨z, kb, kb'⟩ := own_reads ho.out
      clear ho hn
      have hb16 := below_on hb15 hb
      have i16 := reads_on i15 hb
      have r16 := reads_on r15 hb
      have a16 := reads_on a15 hb
      have aw16 := wrtI_on aw15 hb
      have b16 := z
      clear hb15 hb i15 r15 a15 aw15 f215
      clear z
      generalize gAt L = e1 at *
      generalize gEr L = e2 at *
      generalize errL L = e3 at *
      go_wp2_with fail
      refine (sameInts (leaL L) Aa Ab n1 n1 ca cb w16 a16 b16 (by omega)).mono ?_
      rintro e w17 ⟨rfl, hb⟩
      have hb17 := below_on hb16 hb
      have aw17 := wrtI_on aw16 hb
      clear hb16 hb i16 r16 a16 aw16 b16
      go_wp2_with fail
      go_loopg [15] 7 (fun g v wr => ∃ p : Nat, p + g = 7 ∧ v = .int .i64 ((p : Int) - 1) ∧ Hid (WrtI wr w1.heap.size Aa n1) ∧ Hid (Below w1.heap.size w1 wr))
      case atStart => exact ⟨0, by omega, rfl, aw17.out, hb17.out⟩
      case round =>
        clear aw17 hb17
        obtain ⟨p, hp, rfl, haw, hbel2⟩ := hrel
        cases gk with
        | zero =>
          obtain rfl : p = 7 := by omega
          go_wp2_with fail
          go_loopg [22] n1 (fun g i wr => ∃ z : Nat, z + g = n1 ∧ i = .int .i64 z ∧ Hid (WrtI wr w1.heap.size Aa n1) ∧ Hid (Below w1.heap.size w1 wr))
          case atStart => exact ⟨0, by omega, rfl, haw.out, hbel2.out⟩
          case round =>
            clear haw hbel2
            obtain ⟨z, hz, rfl, ha, hbel⟩ := hrel
            cases gk with
            | zero =>
              obtain rfl : n1 = z := by omega
              go_wp2_with fail
              go_roundg g
              case measure => omega
              case rel => exact ⟨q + 1, by omega, by go_num, hbel⟩
            | succ g3 =>
              obtain ⟨gb, u0, rfl, hgb, hgl, d0, f0⟩ := ha.out.at_ (show z < n1 by omega)
              have z0 : (0 : Int) ≤ (z : Int) := by omega
              have z1 : (z : Int) < (n1 : Int) := by omega
              have z2 : z ≤ 65537 := by omega
              have za := Lib.hid (ha.out.set gb z (.int .i64 (-9)))
              have zbel : Hid (Below w1.heap.size w1 (wr.setCell ⟨gb, z, none⟩ (.int .i64 (-9)))) := hbel.out.setCell (p := ⟨gb, z, none⟩) hgb _
              clear hgl
              go_wp2_with fail
              go_roundg g3
              case measure => omega
              case rel => exact ⟨z + 1, by omega, by go_num, za, zbel⟩
        | succ g2 =>
          have i3 := reads_on hi1 hbel2.out
          have r3 := reads_on hr1 hbel2.out
          have p6 : (p : Int) - 1 < 6 := by omega
          by_cases hp0 : p = 0
          · have p7 : (p : Int) - 1 < 0 := by omega
            go_wp2_with fail
            refine (gmust_any L kw A1 N c1 wr i3 (by omega) hwH.out).mono ?_
            rintro e w41 ⟨Ax, nx, cx, rfl, hn, ho, hb⟩
            have hmx := Lib.hid hn
            have bnx : nx ≤ 80 := by have := muL_len L kw; have := hNH.out; omega
            obtain ⟨z, kx, kx'⟩ := own_reads ho
            have zw := wrt_new ho hbel2
            clear ho hn
            have hb41 := below_on hbel2 hb
            have i41 := reads_on i3 hb
            have r41 := reads_on r3 hb
            have aw41 := wrtI_on haw hb
            have x41 := z
            have xw41 := zw
            clear hbel2 hb i3 r3 haw
            clear z zw
            go_wp2_with fail
            refine (hF.out w41 r41).mono ?_
            rintro e w42 ⟨Af3, nf3, cf3, rfl, hn, ho, hb⟩
            obtain rfl : N = nf3 := (hn.trans hNH.out).symm
            obtain ⟨z, kf3, kf3'⟩ := own_reads ho
            clear ho hn
            have hb42 := below_on hb41 hb
            have i42 := reads_on i41 hb
            have r42 := reads_on r41 hb
            have aw42 := wrtI_on aw41 hb
            have x42 := reads_on x41 hb
            have xw42 := wrt_on xw41 hb
            have f342 := z
            clear hb41 hb i41 r41 aw41 x41 xw41
            clear z
            go_wp2_with fail
            refine (rmust_any L kw Af3 N cf3 w42 f342 (by omega) hwH.out).mono ?_
            rintro e w43 ⟨Ay, ny, cy, rfl, hn, ho, hb⟩
            obtain rfl : nx = ny := hmx.out.trans hn.symm
            obtain ⟨z, ky, ky'⟩ := own_reads ho
            clear ho hn
            have hb43 := below_on hb42 hb
            have i43 := reads_on i42 hb
            have r43 := reads_on r42 hb
            have aw43 := wrtI_on aw42 hb
            have x43 := reads_on x42 hb
            have xw43 := wrt_on xw42 hb
            have y43 := z
            clear hb42 hb i42 r42 aw42 x42 xw42 f342
            clear z
            generalize muEr L kw = e5
            go_wp2_with fail
            refine (sameSe (muL L kw) Ax Ay nx nx cx cy w43 x43 y43 (by omega)).mono ?_
            rintro e w44 ⟨rfl, hb⟩
            have hb44 := below_on hb43 hb
            have aw44 := wrtI_on aw43 hb
            have xw44 := wrt_on xw43 hb
            clear hb43 hb i43 r43 aw43 x43 xw43 y43
            go_wp2_with fail
            go_loopg [21] nx (fun g i wr => ∃ z : Nat, z + g = nx ∧ i = .int .i64 z ∧ Hid (Wrt 43 wr w1.heap.size Ax nx) ∧ Hid (WrtI wr w1.heap.size Aa n1) ∧ Hid (Below w1.heap.size w1 wr))
            case atStart => exact ⟨0, by omega, rfl, xw44.out, aw44.out, hb44.out⟩
            case round =>
              clear xw44 aw44 hb44
              obtain ⟨z, hz, rfl, hx, ha, hbel⟩ := hrel
              cases gk with
              | zero =>
                obtain rfl : nx = z := by omega
                go_wp2_with fail
                go_roundg g2
                case measure => omega
                case rel => exact ⟨p + 1, by omega, congrArg (Value.int .i64) (by omega), ha, hbel⟩
              | succ g3 =>
                obtain ⟨gb, u0, u1, u2, u3, rfl, hgb, hgl, ⟨d0, d1, d2, d3⟩, f0, f1, f2, f3⟩ := hx.out.at_ (show z < nx by omega)
                have z0 : (0 : Int) ≤ (z : Int) := by omega
                have z1 : (z : Int) < (nx : Int) := by omega
                have z2 : z ≤ 65537 := by omega
                have zx := hx.out.set4 gb (z * 4) (.int .i64 0) (.int .u64 0) (.int .i64 0) (.int .i64 0)
                have za := ha.out.set4 gb (z * 4) (.int .i64 0) (.int .u64 0) (.int .i64 0) (.int .i64 0)
                have zbel := below_set4 (k := z * 4) hbel hgb (.int .i64 0) (.int .u64 0) (.int .i64 0) (.int .i64 0)
                clear hgl
                go_wp2_with fail
                go_roundg g3
                case measure => omega
                case rel => exact ⟨z + 1, by omega, by go_num, zx, za, zbel⟩
          · have p7 : ¬ ((p : Int) - 1 < 0) := by omega
            go_wp2_with fail
            refine (gmust_any L ((p : Int) - 1) A1 N c1 wr i3 (by omega) hwH.out).mono ?_
            rintro e w41 ⟨Ax, nx, cx, rfl, hn, ho, hb⟩
            have hmx := Lib.hid hn
            have bnx : nx ≤ 80 := by have := muL_len L ((p : Int) - 1); have := hNH.out; omega
            obtain ⟨z, kx, kx'⟩ := own_reads ho
            have zw := wrt_new ho hbel2
            clear ho hn
            have hb41 := below_on hbel2 hb
            have i41 := reads_on i3 hb
            have r41 := reads_on r3 hb
            have aw41 := wrtI_on haw hb
            have x41 := z
            have xw41 := zw
            clear hbel2 hb i3 r3 haw
            clear z zw
            go_wp2_with fail
            refine (hF.out w41 r41).mono ?_
            rintro e w42 ⟨Af3, nf3, cf3, rfl, hn, ho, hb⟩
            obtain rfl : N = nf3 := (hn.trans hNH.out).symm
            obtain ⟨z, kf3, kf3'⟩ := own_reads ho
            clear ho hn
            have hb42 := below_on hb41 hb
            have i42 := reads_on i41 hb
            have r42 := reads_on r41 hb
            have aw42 := wrtI_on aw41 hb
            have x42 := reads_on x41 hb
            have xw42 := wrt_on xw41 hb
            have f342 := z
            clear hb41 hb i41 r41 aw41 x41 xw41
            clear z
            go_wp2_with fail
            refine (rmust_any L ((p : Int) - 1) Af3 N cf3 w42 f342 (by omega) hwH.out).mono ?_
            rintro e w43 ⟨Ay, ny, cy, rfl, hn, ho, hb⟩
            obtain rfl : nx = ny := hmx.out.trans hn.symm
            obtain ⟨z, ky, ky'⟩ := own_reads ho
            clear ho hn
            have hb43 := below_on hb42 hb
            have i43 := reads_on i42 hb
            have r43 := reads_on r42 hb
            have aw43 := wrtI_on aw42 hb
            have x43 := reads_on x42 hb
            have xw43 := wrt_on xw42 hb
            have y43 := z
            clear hb42 hb i42 r42 aw42 x42 xw42 f342
            clear z
            generalize muEr L ((p : Int) - 1) = e5
            go_wp2_with fail
            refine (sameSe (muL L ((p : Int) - 1)) Ax Ay nx nx cx cy w43 x43 y43 (by omega)).mono ?_
            rintro e w44 ⟨rfl, hb⟩
            have hb44 := below_on hb43 hb
            have aw44 := wrtI_on aw43 hb
            have xw44 := wrt_on xw43 hb
            clear hb43 hb i43 r43 aw43 x43 xw43 y43
            go_wp2_with fail
            go_loopg [21] nx (fun g i wr => ∃ z : Nat, z + g = nx ∧ i = .int .i64 z ∧ Hid (Wrt 43 wr w1.heap.size Ax nx) ∧ Hid (WrtI wr w1.heap.size Aa n1) ∧ Hid (Below w1.heap.size w1 wr))
            case atStart => exact ⟨0, by omega, rfl, xw44.out, aw44.out, hb44.out⟩
            case round =>
              clear xw44 aw44 hb44
              obtain ⟨z, hz, rfl, hx, ha, hbel⟩ := hrel
              cases gk with
              | zero =>
                obtain rfl : nx = z := by omega
                go_wp2_with fail
                go_roundg g2
                case measure => omega
                case rel => exact ⟨p + 1, by omega, congrArg (Value.int .i64) (by omega), ha, hbel⟩
              | succ g3 =>
                obtain ⟨gb, u0, u1, u2, u3, rfl, hgb, hgl, ⟨d0, d1, d2, d3⟩, f0, f1, f2, f3⟩ := hx.out.at_ (show z < nx by omega)
                have z0 : (0 : Int) ≤ (z : Int) := by omega
                have z1 : (z : Int) < (nx : Int) := by omega
                have z2 : z ≤ 65537 := by omega
                have zx := hx.out.set4 gb (z * 4) (.int .i64 0) (.int .u64 0) (.int .i64 0) (.int .i64 0)
                have za := ha.out.set4 gb (z * 4) (.int .i64 0) (.int .u64 0) (.int .i64 0) (.int .i64 0)
                have zbel := below_set4 (k := z * 4) hbel hgb (.int .i64 0) (.int .u64 0) (.int .i64 0) (.int .i64 0)
                clear hgl
                go_wp2_with fail
                go_roundg g3
                case measure => omega
                case rel => exact ⟨z + 1, by omega, by go_num, zx, za, zbel⟩
end Go.Proofs.Ythkppihfdlmhgaa
