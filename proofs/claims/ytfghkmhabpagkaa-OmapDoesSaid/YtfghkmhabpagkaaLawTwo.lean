/- The law OmapTwice, walked. -/
import Derived.Test.YtfghkmhabpagkaaORng
import Derived.Test.YtfghkmhabpagkaaKnown
import Derived.Test.YtfghkmhabpagkaaOpenS
import Derived.Deep.RegionHeld3
import Derived.Deep.DrawnRows
namespace Go.Proofs.Ytfghkmhabpagkaa
open Go Go.RowKit
set_option linter.unusedVariables false

theorem box2 {W w : World} {b : Nat} {T : TypeId} {x y : Int} (hB : Hid (Blk W b T #[.int .u64 x, .int .u64 y])) (hb : Below W.heap.size W w) : w.cell? ⟨b, 0, none⟩ = some (.int .u64 x) ∧ w.cell? ⟨b, 1, none⟩ = some (.int .u64 y) :=
  ⟨(hb.cell (p := ⟨b, 0, none⟩) hB.out.lt).trans (by simpa using hB.out.cell 0), (hb.cell (p := ⟨b, 1, none⟩) hB.out.lt).trans (by simpa using hB.out.cell 1)⟩
theorem wf_u64 {x : Int} (h0 : 0 ≤ x) (h1 : x ≤ 18446744073709551615) : (Lit.int .u64 x).wf = true := by
  have h2 : IntKind.u64.min = 0 := by decide
  have h3 : IntKind.u64.max = 18446744073709551615 := by decide
  unfold Lit.wf
  simp only [Bool.and_eq_true, decide_eq_true_eq]
  omega
theorem inR_mem {lo hi : Int} {l : List Pr} {p : Pr} (h : p ∈ inR lo hi l) : p ∈ l ∧ lo ≤ p.key ∧ p.key ≤ hi := by
  obtain ⟨h1, h2⟩ := List.mem_filter.1 h
  simp [inB] at h2
  exact ⟨h1, h2⟩
theorem moved_wf {lo hi by_ : Int} {l : List Pr} (hw : ∀ p ∈ l, (Lit.int .u64 p.key).wf = true) (hlo : 0 ≤ lo) (hby : 0 ≤ by_) (h2 : hi + by_ ≤ 18446744073709551615) : ∀ p ∈ moved lo hi by_ l, (Lit.int .u64 p.key).wf = true := by
  intro p hp
  rcases mem_puts _ hp with h | h
  · obtain ⟨q, hq, rfl⟩ := List.mem_map.1 h
    obtain ⟨_, h3, h4⟩ := inR_mem hq
    exact wf_u64 (show 0 ≤ q.key + by_ by omega) (show q.key + by_ ≤ _ by omega)
  · exact hw p (List.mem_filter.1 h).1
theorem moved_look {lo hi by_ : Int} {l : List Pr} (h : Srt Pr.key l) {p : Pr} (hl : look Pr.key l p.key = some p) (h1 : lo ≤ p.key) (h2 : p.key ≤ hi) : look Pr.key (moved lo hi by_ l) (p.key + by_) = some ⟨p.key + by_, p.val⟩ := by
  rw [(moved_spec lo hi by_ h).2, look_sh, show p.key + by_ - by_ = p.key by omega, look_in, if_pos (by simp [inB, h1, h2]), hl]
  rfl
theorem kp_side {w w' : World} {g g2 : Nat} {v' v2 : Value} {size n : Nat} {A : Option Addr} {xs : List Value} (h : Hid (Kp w' g v' size A n xs)) (h2 : Hid (Kp w g2 v2 size A n xs)) (hs : w.heap.size ≤ w'.heap.size) : Hid (Kp w' g2 v2 size A n xs) :=
  ⟨h.out.1, fun ad e hn => ⟨Nat.lt_of_lt_of_le (h2.out.2 ad e hn).1 hs, (h2.out.2 ad e hn).2⟩⟩
theorem u64_sub {x y : Int} (h0 : 0 ≤ y) (h1 : y ≤ x) (h2 : x ≤ 18446744073709551615) : IntKind.u64.wrap (x - y) = x - y := IntWalk.u64_in _ (by omega)
theorem u64_add {x y : Int} (h0 : 0 ≤ x) (h1 : 0 ≤ y) (h2 : x + y ≤ 18446744073709551615) : IntKind.u64.wrap (x + y) = x + y := IntWalk.u64_in _ (by omega)
set_option maxRecDepth 100000 in
set_option maxHeartbeats 16000000 in
theorem twice_core (A : Option Addr) (n c : Nat) (l : List Pr) (lo hi xa xb : Int) (w : World) (hr : Hid (Reads w w.heap.size 2 A n (prs l))) (hw : ∀ p ∈ l, (Lit.int .u64 p.key).wf = true) (wlo : (Lit.int .u64 lo).wf = true) (whi : (Lit.int .u64 hi).wf = true) (wa : (Lit.int .u64 xa).wf = true) (wb : (Lit.int .u64 xb).wf = true) :
    Calls Try.prog 4 #[.slice A n c, .agg #[.int .u64 lo, .int .u64 hi], .agg #[.int .u64 xa, .int .u64 xb]] w fun e w' => e = .returned (.bool true) ∧ Below w.heap.size w w' := by
  have blo := bounds_u64 wlo
  have bhi := bounds_u64 whi
  have ba := bounds_u64 wa
  have bb := bounds_u64 wb
  have hll := Lib.hid (prs_n hr.out)
  obtain ⟨W, hW⟩ : ∃ W, (w.alloc (.cells #[.int .u64 lo, .int .u64 hi] 25)).alloc (.cells #[.int .u64 xa, .int .u64 xb] 45) = W := ⟨_, rfl⟩
  have hb0 : Hid (Below w.heap.size w W) := by rw [← hW]; exact ((Below.refl _ _).alloc (Nat.le_refl _) _).alloc (by simp) _
  have hBs : Hid (Blk W w.heap.size 25 #[.int .u64 lo, .int .u64 hi]) := by rw [← hW]; exact (Blk.new w _ _).alloc _
  have hBx : Hid (Blk W (w.heap.size + 1) 45 #[.int .u64 xa, .int .u64 xb]) := by rw [← hW]; exact Blk.new1 w _ _ _
  have hr0 : Hid (Reads W W.heap.size 2 A n (prs l)) := (hr.out.below hb0.out).more hb0.out.size
  obtain ⟨c0, c1⟩ := box2 hBs (Below.refl _ W)
  obtain ⟨x0, x1⟩ := box2 hBx (Below.refl _ W)
  obtain ⟨M, hM⟩ : ∃ M : Int, IntKind.u64.wrap (18446744073709551615 - hi) = M := ⟨_, rfl⟩
  have eM : M = 18446744073709551615 - hi := by rw [← hM, u64_sub bhi.1 bhi.2 (by omega)]
  obtain ⟨N, hN⟩ : ∃ N : Int, IntKind.u64.wrap (M - xa) = N := ⟨_, rfl⟩
  clear hr
  by_cases t1 : 60 < n
  · have d1 : (60 : Int) < (n : Int) := by omega
    go_enter Try.func4, Try.ntmps4
    go_wp2_with fail
    refine (known_any _).mono ?_
    rintro e w1 ⟨rfl, hb⟩
    have hbe := below_on hb0 hb
    clear hb
    go_wp2_with fail
    go_ret
    exact ⟨rfl, hbe.out⟩
  · have d1 : ¬ (60 : Int) < (n : Int) := by omega
    by_cases t2 : hi < lo
    · have d2 := decide_eq_true t2
      go_enter Try.func4, Try.ntmps4
      go_wp2_with fail
      refine (known_any _).mono ?_
      rintro e w1 ⟨rfl, hb⟩
      have hbe := below_on hb0 hb
      clear hb
      go_wp2_with fail
      go_ret
      exact ⟨rfl, hbe.out⟩
    · have d2 := decide_eq_false t2
      by_cases t3 : xa = 0
      · subst t3
        go_enter Try.func4, Try.ntmps4
        go_wp2_with fail
        refine (known_any _).mono ?_
        rintro e w1 ⟨rfl, hb⟩
        have hbe := below_on hb0 hb
        clear hb
        go_wp2_with fail
        go_ret
        exact ⟨rfl, hbe.out⟩
      · have d3 : (xa == 0) = false := by simpa using t3
        by_cases t4 : xb = 0
        · subst t4
          go_enter Try.func4, Try.ntmps4
          go_wp2_with fail
          refine (known_any _).mono ?_
          rintro e w1 ⟨rfl, hb⟩
          have hbe := below_on hb0 hb
          clear hb
          go_wp2_with fail
          go_ret
          exact ⟨rfl, hbe.out⟩
        · have d4 : (xb == 0) = false := by simpa using t4
          by_cases t5 : M < xa
          · have d5 := decide_eq_true t5
            go_enter Try.func4, Try.ntmps4
            go_wp2_with fail
            refine (known_any _).mono ?_
            rintro e w1 ⟨rfl, hb⟩
            have hbe := below_on hb0 hb
            clear hb
            go_wp2_with fail
            go_ret
            exact ⟨rfl, hbe.out⟩
          · have d5 := decide_eq_false t5
            have eN : N = 18446744073709551615 - hi - xa := by rw [← hN, u64_sub ba.1 (by omega) (by omega), eM]
            have hN3 : IntKind.u64.wrap (18446744073709551615 - hi - xa) = N := by rw [eN, ← eM, u64_sub ba.1 (by omega) (by omega)]
            by_cases t6 : N < xb
            · have d6 := decide_eq_true t6
              go_enter Try.func4, Try.ntmps4
              go_wp2_with fail
              refine (known_any _).mono ?_
              rintro e w1 ⟨rfl, hb⟩
              have hbe := below_on hb0 hb
              clear hb
              go_wp2_with fail
              go_ret
              exact ⟨rfl, hbe.out⟩
            · have d6 := decide_eq_false t6
              have hf60 : (firsts l).length ≤ 60 := by
                have h1 := firsts_len l l.length
                rw [← firsts_all, hll.out] at h1
                omega
              have hS60 : (madeL l).length ≤ 60 := Nat.le_trans (madeL_len l) hf60
              have hSw : ∀ p ∈ madeL l, (Lit.int .u64 p.key).wf = true := fun p hp => hw p (madeL_mem hp)
              have hmade := Lib.hid (fun W' h => made_any l A n c W' h (by omega) : ∀ W' : World, Hid (Reads W' W'.heap.size 2 A n (prs l)) → Calls Try.prog 11 #[.slice A n c] W' (MadeEnd l W'))
              have sA : IntKind.u64.wrap (lo + xa) = lo + xa := u64_add blo.1 ba.1 (by omega)
              have sB : IntKind.u64.wrap (hi + xa) = hi + xa := u64_add bhi.1 ba.1 (by omega)
              have sC : IntKind.u64.wrap (xa + xb) = xa + xb := u64_add ba.1 bb.1 (by omega)
              go_enter Try.func4, Try.ntmps4
              go_wp2_with fail
              refine (hmade.out W hr0).mono ?_
              rintro e w1 ⟨hb, ⟨h60, _⟩ | ⟨_, g, v, rfl, ho⟩⟩
              · omega
              have hm1 : Hid (MapAt W w1 g v (madeL l)) := ⟨ho, hb⟩
              have hr1 := reads_on hr0 hb
              clear hb ho hr0 c0 c1 x0 x1
              go_wp2_with fail
              refine (hmade.out w1 hr1).mono ?_
              rintro e w2 ⟨hb, ⟨h60, _⟩ | ⟨_, g2, v2, rfl, ho⟩⟩
              · omega
              have hf1 := off_new hm1.out ho
              have hn2 : Hid (MapAt W w2 g2 v2 (madeL l)) := mapAt_new hm1.out.bel ho hb
              have hm2 := mapAt_on hm1 hb
              obtain ⟨S, hS⟩ : ∃ S, madeL l = S := ⟨_, rfl⟩
              have hSrt : Hid (Srt Pr.key S) := by rw [← hS]; exact hm2.out.o.srt
              rw [hS] at hm2 hn2 hS60 hSw
              obtain ⟨c0, c1⟩ := box2 hBs hm2.out.bel
              obtain ⟨x0, x1⟩ := box2 hBx hm2.out.bel
              clear hb ho hm1 hr1 hmade hS hf60
              go_wp2_with fail
              refine (rngM lo hi w2 hm2 (by omega) (by omega)).mono ?_
              rintro e w3 ⟨LA, LC, rfl, hown, hb⟩
              have hm3 := mapAt_on hm2 hb
              have hn3 := mapAt_on hn2 hb
              have hf3 := off_on hf1 (Stays.of_below hb)
              have kp3 := kp_new hm2.out hown
              have kq3 := kp_new hn2.out hown
              obtain ⟨L, hL⟩ : ∃ L, Hid (inR lo hi S = L) := ⟨_, rfl⟩
              have hLS := Lib.hid (show L.length ≤ 60 by rw [← hL.out]; exact Nat.le_trans (List.length_filter_le _ _) hS60)
              have hLn : L.length = (inR lo hi S).length := by rw [hL.out]
              obtain ⟨nL, hnL⟩ : ∃ nL, (inR lo hi S).length = nL := ⟨_, rfl⟩
              rw [hnL, hL.out] at kp3 kq3
              rw [hnL] at hLn
              obtain ⟨c0', c1'⟩ := box2 hBs hm3.out.bel
              obtain ⟨x0', x1'⟩ := box2 hBx hm3.out.bel
              have hLn2 := Lib.hid hLn
              try rw [hnL]
              clear hb hown hm2 hn2 hf1 c0 c1 x0 x1 hLn hnL
              go_wp2_with fail
              refine (moveM lo hi xa w3 hm3 (by omega) (by omega) t3 (by omega) hSw whi wa).mono ?_
              rintro e w4 ⟨rfl, v4, hm4, hst⟩
              have hm4 := Lib.hid hm4
              have hn4 := mapAt_off hn3 hf3 hst hm4.out.bel
              have hf4 := off_on hf3 hst
              have kp4 := kp_on kp3 hst
              have kq4 := kp_side kp4 kq3 hst.1.size
              obtain ⟨c0, c1⟩ := box2 hBs hm4.out.bel
              obtain ⟨x0, x1⟩ := box2 hBx hm4.out.bel
              generalize hz1 : (inR lo hi S).length = z1
              clear hz1 hst hm3 hn3 hf3 kp3 kq3 c0' c1' x0' x1'
              go_wp2_with fail
              refine (moveM (lo + xa) (hi + xa) xb w4 hm4 (Nat.le_trans (moved_len lo hi xa S) (by omega)) (by omega) t4 (by omega) (moved_wf hSw blo.1 ba.1 (by omega)) (wf_u64 (by omega) (by omega)) wb).mono ?_
              rintro e w5 ⟨rfl, v5, hm5, hst⟩
              have hm5 := Lib.hid hm5
              have hn5 := mapAt_off hn4 hf4 hst hm5.out.bel
              have hf5 := off_on hf4 hst
              have kp5 := kp_on kp4 hst
              have kq5 := kp_side kp5 kq4 hst.1.size
              obtain ⟨c0', c1'⟩ := box2 hBs hm5.out.bel
              obtain ⟨x0', x1'⟩ := box2 hBx hm5.out.bel
              generalize hz2 : (inR (lo + xa) (hi + xa) (moved lo hi xa S)).length = z2
              clear hz2 hst hm4 hn4 hf4 kp4 kq4 c0 c1 x0 x1
              go_wp2_with fail
              refine (moveM lo hi (xa + xb) w5 hn5 (by omega) (by omega) (by omega) (by omega) hSw whi (wf_u64 (by omega) (by omega))).mono ?_
              rintro e w6 ⟨rfl, v6, hn6, hst⟩
              have hn6 := Lib.hid hn6
              have hm6 := mapAt_off hm5 (off_symm hm5 hf5) hst hn6.out.bel
              have kq6 := kp_on kq5 hst
              have hr6 : Hid (Reads w6 w6.heap.size 2 LA nL (prs L)) := kq6.out.1
              obtain ⟨c0, c1⟩ := box2 hBs hn6.out.bel
              obtain ⟨x0, x1⟩ := box2 hBx hn6.out.bel
              have hlk : Hid (∀ p ∈ L, look Pr.key (moved (lo + xa) (hi + xa) xb (moved lo hi xa S)) (p.key + xa + xb) = some ⟨p.key + xa + xb, p.val⟩ ∧ look Pr.key (moved lo hi (xa + xb) S) (p.key + xa + xb) = some ⟨p.key + xa + xb, p.val⟩ ∧ lo ≤ p.key ∧ p.key ≤ hi) := fun p hp => by
                rw [← hL.out] at hp
                obtain ⟨h1, h2, h3⟩ := inR_mem hp
                have hs := hm6.out.o.srt
                have hSs : Srt Pr.key S := hSrt.out
                have e1 := look_mem hSs h1
                have e2 := moved_look (by_ := xa) hSs e1 h2 h3
                have e3 := moved_look (by_ := xb) (lo := lo + xa) (hi := hi + xa) (p := ⟨p.key + xa, p.val⟩) (moved_spec lo hi xa hSs).1 e2 (show lo + xa ≤ p.key + xa by omega) (show p.key + xa ≤ hi + xa by omega)
                have e4 := moved_look (by_ := xa + xb) hSs e1 h2 h3
                refine ⟨e3, ?_, h2, h3⟩
                have e5 : p.key + xa + xb = p.key + (xa + xb) := by omega
                rw [e5]
                exact e4
              generalize hz3 : (inR lo hi S).length = z3
              clear hz3 hst hm5 hn5 hf5 kp5 kq5 kq6 c0' c1' x0' x1'
              go_wp2_with fail
              go_loopg [17] nL (fun gk i wr => ∃ k : Nat, k + gk = nL ∧ i = .int .i64 k ∧ Hid (Below w6.heap.size w6 wr))
              case atStart => exact ⟨0, by omega, rfl, Below.refl _ _⟩
              case round =>
                clear c0 c1 x0 x1
                obtain ⟨k, hk, rfl, hbel⟩ := hrel
                have hn7 := mapAt_on hn6 hbel.out
                have hm7 := mapAt_on hm6 hbel.out
                obtain ⟨x0, x1⟩ := box2 hBx hn7.out.bel
                cases gk with
                | zero =>
                  obtain rfl : k = nL := by omega
                  clear hlk
                  go_wp2_with fail
                  refine (known_any _).mono ?_
                  rintro e w8 ⟨rfl, hb⟩
                  have hbe := below_on (below_on hb0 hn7.out.bel) hb
                  clear hb x0 x1
                  go_wp2_with fail
                  go_ret
                  exact ⟨rfl, hbe.out⟩
                | succ g3 =>
                  obtain ⟨b, o, rfl, hbB⟩ := reads_head hr6.out (by omega) (by decide)
                  obtain ⟨⟨pk, pv⟩, hx, q0, q1⟩ := prs_at (hr6.out.below hbel.out) (show k < nL by omega)
                  have i0 : (0 : Int) ≤ (k : Int) := by omega
                  have i1 : (k : Int) < (nL : Int) := by omega
                  obtain ⟨e1, e2, e3, e4⟩ := hlk.out _ (List.mem_of_getElem? hx)
                  dsimp only at q0 q1 e1 e2 e3 e4
                  have s1 : IntKind.u64.wrap (pk + xa) = pk + xa := u64_add (by omega) ba.1 (by omega)
                  have s2 : IntKind.u64.wrap (pk + xa + xb) = pk + xa + xb := u64_add (by omega) bb.1 (by omega)
                  have e1h := Lib.hid e1
                  have e2h := Lib.hid e2
                  have hbw : b < wr.heap.size := by have := hbel.out.size; omega
                  clear hx e1 e2 e3 e4
                  have k9 : k < 60 := by have := hLS.out; have := hLn2.out; omega
                  have hMd := mapAt_on hm7 (Below.refl _ wr).drew
                  have hD : Below wr.heap.size wr wr.drew := (Below.refl _ wr).drew
                  clear hm7
                  go_wp2_with fail
                  go_region_held3 (fun w' => w'.cell? ⟨b, o + k * 2, none⟩ = some (.int .u64 pk) ∧ w'.cell? ⟨w.heap.size + 1, 0, none⟩ = some (.int .u64 xa) ∧ w'.cell? ⟨w.heap.size + 1, 1, none⟩ = some (.int .u64 xb))
                    (first
                      | exact ⟨q0, x0, x1⟩
                      | exact ⟨p0, y0, y1⟩)
                    ((first
                      | (go_at_call 17; (with_reducible refine (getM (pk + xa + xb) wr.drew hMd).mono ?_); rintro e w8 ⟨hE, hb⟩; rw [e1h.out] at hE; replace hE : e = .returned (.tuple #[.int .u64 pv, .bool true]) := hE; subst hE; have hb8 := below_on hbel (hD.trans hb); have hn8 := mapAt_on hn7 (hD.trans hb); obtain ⟨y0, y1⟩ := box2 hBx hn8.out.bel; have p0 := ((hD.trans hb).cell (p := ⟨b, o + k * 2, none⟩) hbw).trans q0; have p1 := ((hD.trans hb).cell (p := ⟨b, o + k * 2 + 1, none⟩) hbw).trans q1; have hbw8 : b < w8.heap.size := by have := hb8.out.size; omega)))
                  have hM8 := mapAt_on hn8 (Below.refl _ w8).drew
                  have hD8 : Below w8.heap.size w8 w8.drew := (Below.refl _ w8).drew
                  clear hb x0 x1 q0 q1 hbel hn7 hMd hD
                  go_wp2_with fail
                  go_region_held3 (fun w' => w'.cell? ⟨b, o + k * 2, none⟩ = some (.int .u64 pk) ∧ w'.cell? ⟨w.heap.size + 1, 0, none⟩ = some (.int .u64 xa) ∧ w'.cell? ⟨w.heap.size + 1, 1, none⟩ = some (.int .u64 xb))
                    (first
                      | exact ⟨p0, y0, y1⟩
                      | exact ⟨r0, z0, z1⟩)
                    ((first
                      | (go_at_call 17; (with_reducible refine (getM (pk + xa + xb) w8.drew hM8).mono ?_); rintro e w9 ⟨hE, hb⟩; rw [e2h.out] at hE; replace hE : e = .returned (.tuple #[.int .u64 pv, .bool true]) := hE; subst hE; have hb9 := below_on hb8 (hD8.trans hb); have hn9 := mapAt_on hn8 (hD8.trans hb); obtain ⟨z0, z1⟩ := box2 hBx hn9.out.bel; have r0 := ((hD8.trans hb).cell (p := ⟨b, o + k * 2, none⟩) hbw8).trans p0; have r1 := ((hD8.trans hb).cell (p := ⟨b, o + k * 2 + 1, none⟩) hbw8).trans p1)))
                  clear hb y0 y1 p0 p1 hb8 hn8 hM8 hD8
                  go_wp2_with fail
                  go_roundg g3
                  case measure => omega
                  case rel => exact ⟨k + 1, by omega, by go_num, hb9⟩
theorem twice_law (A : Option Addr) (n c : Nat) (l : List Pr) (lo hi xa xb : Int) (w : World) (hI : IsPairs w A n c l) (wlo : (Lit.int .u64 lo).wf = true) (whi : (Lit.int .u64 hi).wf = true) (wa : (Lit.int .u64 xa).wf = true) (wb : (Lit.int .u64 xb).wf = true) :
    Calls Try.prog 4 #[.slice A n c, .agg #[.int .u64 lo, .int .u64 hi], .agg #[.int .u64 xa, .int .u64 xb]] w fun e w' => e = .returned (.bool true) ∧ Below w.heap.size w w' :=
  twice_core A n c l lo hi xa xb w hI.reads (fun p hp => (hI.wf p hp).1) wlo whi wa wb
end Go.Proofs.Ytfghkmhabpagkaa
