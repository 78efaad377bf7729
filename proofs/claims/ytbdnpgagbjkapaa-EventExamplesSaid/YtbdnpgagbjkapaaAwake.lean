/- The fixed example of chapter 11, walked (printed by gen_awake.py). -/
import Derived.Test.YtbdnpgagbjkapaaExm
import Derived.Deep.RegionHeld3
import Derived.Deep.DrawnRows
namespace Go.Proofs.Ytbdnpgagbjkapaa
open Go Go.RowKit
set_option linter.unusedVariables false
attribute [local go_sem ↓] Go.wp_at_zero Go.wp_at_succ

set_option maxRecDepth 100000 in
set_option maxHeartbeats 8000000 in
theorem awake_any (w : World) : Calls Try.prog 19 #[] w fun e w' => e = .returned (.bool true) ∧ Below w.heap.size w w' := by
  go_enter Try.func19, Try.ntmps19
  have hb0 : Hid (Below w.heap.size w w) := Below.refl _ _
  go_wp2_with fail
  refine (example_any w).mono ?_
  rintro e w1 ⟨rfl, hrd, hblk, hb⟩
  have hb1 := below_on hb0 hb
  have x1 := hrd
  clear hb0 hb
  clear hblk hrd
  go_wp2_with fail
  refine (check_at exE (some ⟨w.heap.size, 0, none⟩) 6 6 w1 x1 (by omega)).mono ?_
  rintro e w2 ⟨hE, hb⟩
  rw [aw_at, aw_er] at hE
  subst hE
  have hb2 := below_on hb1 hb
  clear hb1 hb x1
  go_wp2_with fail
  refine (example_any w2).mono ?_
  rintro e w3 ⟨rfl, hrd, hblk, hb⟩
  have hb3 := below_on hb2 hb
  have x3 := hrd
  clear hb2 hb
  clear hblk hrd
  go_wp2_with fail
  refine (sections_at exE (some ⟨w2.heap.size, 0, none⟩) 6 6 w3 x3 (by omega)).mono ?_
  rintro e w4 ⟨As, ns, cs, hE, hn, ho, hb⟩
  rw [aw_er] at hE
  rw [aw_s] at hn ho
  dsimp only [List.length_cons, List.length_nil] at hn
  subst hn
  subst hE
  obtain ⟨zs, ks, ks'⟩ := own_reads ho
  clear ho
  have hb4 := below_on hb3 hb
  have s4 := zs
  clear hb3 hb x3
  clear zs
  go_wp2_with fail
  refine (example_any w4).mono ?_
  rintro e w5 ⟨rfl, hrd, hblk, hb⟩
  have hb5 := below_on hb4 hb
  have s5 := reads_on s4 hb
  have x5 := hrd
  clear hb4 hb s4
  clear hblk hrd
  go_wp2_with fail
  refine (waits_at exE (some ⟨w4.heap.size, 0, none⟩) 6 6 w5 x5 (by omega)).mono ?_
  rintro e w6 ⟨Aw, nw, cw, hE, hn, ho, hb⟩
  rw [aw_er] at hE
  rw [aw_w] at hn ho
  dsimp only [List.length_cons, List.length_nil] at hn
  subst hn
  subst hE
  obtain ⟨zw, kw, kw'⟩ := own_reads ho
  clear ho
  have hb6 := below_on hb5 hb
  have s6 := reads_on s5 hb
  have v6 := zw
  clear hb5 hb s5 x5
  clear zw
  have hb : Below w6.heap.size w6 (w6.alloc (.cells #[.int .i64 0, .int .u64 3, .int .i64 1, .int .i64 4] 41)) := (Below.refl _ _).alloc (Nat.le_refl _) _
  have hb7 := below_on hb6 hb
  have s7 := reads_on s6 hb
  have v7 := reads_on v6 hb
  have e17 : Hid (Reads (w6.alloc (.cells #[.int .i64 0, .int .u64 3, .int .i64 1, .int .i64 4] 41)) (w6.alloc (.cells #[.int .i64 0, .int .u64 3, .int .i64 1, .int .i64 4] 41)).heap.size 4 (some ⟨w6.heap.size, 0, none⟩) 1 (secs ([⟨0, 3, 1, 4⟩] : List Sec))) := reads_row w6 41 (secs ([⟨0, 3, 1, 4⟩] : List Sec)) 1 rfl
  clear hb6 hb s6 v6
  go_wp2_with fail
  refine (sameSe ([⟨0, 3, 1, 4⟩] : List Sec) As (some ⟨w6.heap.size, 0, none⟩) 1 1 cs 1 (w6.alloc (.cells #[.int .i64 0, .int .u64 3, .int .i64 1, .int .i64 4] 41)) s7 e17 (by omega)).mono ?_
  rintro e w8 ⟨rfl, hb⟩
  have hb8 := below_on hb7 hb
  have v8 := reads_on v7 hb
  clear hb7 hb s7 v7 e17
  have hb : Below w8.heap.size w8 (w8.alloc (.cells #[.int .i64 1, .int .u64 8, .int .i64 2, .int .i64 5, .int .i64 1, .int .u64 1, .int .i64 7, .int .i64 7] 43)) := (Below.refl _ _).alloc (Nat.le_refl _) _
  have hb9 := below_on hb8 hb
  have v9 := reads_on v8 hb
  have e29 : Hid (Reads (w8.alloc (.cells #[.int .i64 1, .int .u64 8, .int .i64 2, .int .i64 5, .int .i64 1, .int .u64 1, .int .i64 7, .int .i64 7] 43)) (w8.alloc (.cells #[.int .i64 1, .int .u64 8, .int .i64 2, .int .i64 5, .int .i64 1, .int .u64 1, .int .i64 7, .int .i64 7] 43)).heap.size 4 (some ⟨w8.heap.size, 0, none⟩) 2 (secs ([⟨1, 8, 2, 5⟩, ⟨1, 1, 7, 7⟩] : List Sec))) := reads_row w8 43 (secs ([⟨1, 8, 2, 5⟩, ⟨1, 1, 7, 7⟩] : List Sec)) 2 rfl
  clear hb8 hb v8
  go_wp2_with fail
  refine (sameWa ([⟨1, 8, 2, 5⟩, ⟨1, 1, 7, 7⟩] : List Sec) Aw (some ⟨w8.heap.size, 0, none⟩) 2 2 cw 2 (w8.alloc (.cells #[.int .i64 1, .int .u64 8, .int .i64 2, .int .i64 5, .int .i64 1, .int .u64 1, .int .i64 7, .int .i64 7] 43)) v9 e29 (by omega)).mono ?_
  rintro e w10 ⟨rfl, hb⟩
  have hb10 := below_on hb9 hb
  clear hb9 hb v9 e29
  go_wp2_with fail
  refine (example_any w10).mono ?_
  rintro e w11 ⟨rfl, hrd, hblk, hb⟩
  have hb11 := below_on hb10 hb
  have x11 := hrd
  clear hb10 hb
  clear hblk hrd
  go_wp2_with fail
  refine (open_at exE (some ⟨w10.heap.size, 0, none⟩) 6 6 w11 x11 (by omega) 1).mono ?_
  rintro e w12 ⟨Ac, nc, cc, hE, hn, ho, hb⟩
  rw [aw_l1] at hE
  rw [aw_o1] at hn ho
  dsimp only [List.length_cons, List.length_nil] at hn
  subst hn
  subst hE
  obtain ⟨zc, kc, kc'⟩ := own_reads ho
  obtain ⟨gc, rfl, _, _⟩ := own_at ho (by omega)
  clear ho
  have hb12 := below_on hb11 hb
  have c12 := zc
  clear hb11 hb x11
  clear zc
  go_wp2_with fail
  refine (example_any w12).mono ?_
  rintro e w13 ⟨rfl, hrd, hblk, hb⟩
  have hb13 := below_on hb12 hb
  have c13 := reads_on c12 hb
  have x13 := hrd
  clear hb12 hb c12
  clear hblk hrd
  go_wp2_with fail
  refine (open_at exE (some ⟨w12.heap.size, 0, none⟩) 6 6 w13 x13 (by omega) 4).mono ?_
  rintro e w14 ⟨Ad, nd, cd, hE, hn, ho, hb⟩
  rw [aw_l4] at hE
  rw [aw_o4] at hn
  dsimp only [List.length_cons, List.length_nil] at hn
  subst hn
  subst hE
  clear ho
  have hb14 := below_on hb13 hb
  have c14 := reads_on c13 hb
  clear hb13 hb c13 x13
  go_wp2_with fail
  refine (example_any w14).mono ?_
  rintro e w15 ⟨rfl, hrd, hblk, hb⟩
  have hb15 := below_on hb14 hb
  have c15 := reads_on c14 hb
  have x15 := hrd
  clear hb14 hb c14
  clear hblk hrd
  go_wp2_with fail
  refine (inside_at exE (some ⟨w14.heap.size, 0, none⟩) 6 6 w15 x15 (by omega) 0 3).mono ?_
  rintro e w16 ⟨hE, hb⟩
  rw [aw_i0] at hE
  subst hE
  have hb16 := below_on hb15 hb
  have c16 := reads_on c15 hb
  clear hb15 hb c15 x15
  have hb : Below w16.heap.size w16 (w16.alloc (.cells #[.int .i64 0, .int .u64 3, .int .i64 1, .int .i64 (-1)] 41)) := (Below.refl _ _).alloc (Nat.le_refl _) _
  have hb17 := below_on hb16 hb
  have c17 := reads_on c16 hb
  have xb17 : Hid (Blk (w16.alloc (.cells #[.int .i64 0, .int .u64 3, .int .i64 1, .int .i64 (-1)] 41)) w16.heap.size 41 #[.int .i64 0, .int .u64 3, .int .i64 1, .int .i64 (-1)]) := Blk.new w16 _ _
  clear hb16 hb c16
  go_wp2_with fail
  refine (example_at (w16.alloc (.cells #[.int .i64 0, .int .u64 3, .int .i64 1, .int .i64 (-1)] 41)) (w16.heap.size + 1) (by simp)).mono ?_
  rintro e w18 ⟨rfl, hrd, hblk, hb⟩
  have hb18 := below_on hb17 hb
  have c18 := reads_on c17 hb
  have xb18 := Lib.hid (xb17.out.below hb xb17.out.lt)
  have x18 := hrd
  clear hb17 hb c17 xb17
  clear hblk hrd
  go_wp2_with fail
  refine (inside_at exE (some ⟨w16.heap.size + 1, 0, none⟩) 6 6 w18 x18 (by omega) 1 3).mono ?_
  rintro e w19 ⟨hE, hb⟩
  rw [aw_i1] at hE
  subst hE
  have hb19 := below_on hb18 hb
  have c19 := reads_on c18 hb
  have xb19 := Lib.hid (xb18.out.below hb xb18.out.lt)
  clear hb18 hb c18 xb18 x18
  have hb : Below w19.heap.size w19 (w19.alloc (.cells #[.int .i64 0, .int .u64 0, .int .i64 0, .int .i64 0] 41)) := (Below.refl _ _).alloc (Nat.le_refl _) _
  have hb20 := below_on hb19 hb
  have c20 := reads_on c19 hb
  have xb20 := Lib.hid (xb19.out.below hb xb19.out.lt)
  clear hb19 hb c19 xb19
  go_wp2_with fail
  refine (example_at (w19.alloc (.cells #[.int .i64 0, .int .u64 0, .int .i64 0, .int .i64 0] 41)) (w19.heap.size + 1) (by simp)).mono ?_
  rintro e w21 ⟨rfl, hrd, hblk, hb⟩
  have hb21 := below_on hb20 hb
  have c21 := reads_on c20 hb
  have xb21 := Lib.hid (xb20.out.below hb xb20.out.lt)
  have x21 := hrd
  clear hb20 hb c20 xb20
  clear hblk hrd
  go_wp2_with fail
  refine (prefix_at exE (some ⟨w19.heap.size + 1, 0, none⟩) 6 6 w21 x21 (by omega) 3).mono ?_
  rintro e w22 ⟨Ap, np, cp, hE, hn, ho, hb⟩
  rw [aw_l3] at hE
  rw [aw_p3] at hn
  subst hn
  subst hE
  clear ho
  have hb22 := below_on hb21 hb
  have c22 := reads_on c21 hb
  have xb22 := Lib.hid (xb21.out.below hb xb21.out.lt)
  clear hb21 hb c21 xb21 x21
  go_wp2_with fail
  refine (example_any w22).mono ?_
  rintro e w23 ⟨rfl, hrd, hblk, hb⟩
  have hb23 := below_on hb22 hb
  have c23 := reads_on c22 hb
  have xb23 := Lib.hid (xb22.out.below hb xb22.out.lt)
  have x23 := hrd
  clear hb22 hb c22 xb22
  clear hblk hrd
  go_wp2_with fail
  refine (prefix_at exE (some ⟨w22.heap.size, 0, none⟩) 6 6 w23 x23 (by omega) (-2)).mono ?_
  rintro e w24 ⟨Aq, nq, cq, hE, hn, ho, hb⟩
  rw [aw_l2] at hE
  rw [aw_p2] at hn
  dsimp only [List.length_nil] at hn
  subst hn
  subst hE
  clear ho
  have hb24 := below_on hb23 hb
  have c24 := reads_on c23 hb
  have xb24 := Lib.hid (xb23.out.below hb xb23.out.lt)
  clear hb23 hb c23 xb23 x23
  have x0 := xb24.out.cell 0
  have x1 := xb24.out.cell 1
  have x2 := xb24.out.cell 2
  have x3 := xb24.out.cell 3
  simp only [List.getElem?_toArray, List.getElem?_cons_zero, List.getElem?_cons_succ] at x0 x1 x2 x3
  have hzc := c24
  obtain ⟨qe, hq, c0, c1, c2, c3⟩ := sec_at c24.out (show 0 < 0 + 1 by omega)
  obtain rfl := Option.some.inj hq
  dsimp only at c0 c1 c2 c3
  simp only [Nat.zero_mul, Nat.add_zero, Nat.zero_add] at c0 c1 c2 c3
  have heq : ∀ w, (Op.equalIn 10000 41 (.agg #[.int .i64 0, .int .u64 3, .int .i64 1, .int .i64 (-1)]) (.agg #[.int .i64 0, .int .u64 3, .int .i64 1, .int .i64 (-1)])).run Try.prog w = .ok true w := fun w => by rw [eqSe]; simp
  have hlX : w16.heap.size < w24.heap.size := xb24.out.lt
  have hgl : gc < w24.heap.size := by
    obtain ⟨ad, e, hb, _⟩ := c24.out.2 (by omega)
    obtain rfl := Option.some.inj e
    exact hb
  have hal := ((Below.refl _ w24).alloc (Nat.le_refl _) (.cells #[.int .i64 0, .int .u64 3, .int .i64 1, .int .i64 (-1)] 41)).drew
  have hlit : Hid (Reads (w24.alloc (.cells #[.int .i64 0, .int .u64 3, .int .i64 1, .int .i64 (-1)] 41)).drew (w24.alloc (.cells #[.int .i64 0, .int .u64 3, .int .i64 1, .int .i64 (-1)] 41)).drew.heap.size 4 (some ⟨w24.heap.size, 0, none⟩) 1 (secs ([⟨0, 3, 1, -1⟩] : List Sec))) := reads_row w24 _ (secs ([⟨0, 3, 1, -1⟩] : List Sec)) 1 rfl
  have hsame : Calls Try.prog 16 #[.slice (some ⟨gc, 0, none⟩) 1 cc, .slice (some ⟨w24.heap.size, 0, none⟩) 1 1] (w24.alloc (.cells #[.int .i64 0, .int .u64 3, .int .i64 1, .int .i64 (-1)] 41)).drew fun e w' => e = .returned (.bool true) ∧ Below w24.heap.size w24 w' :=
    (sameSe [⟨0, 3, 1, -1⟩] (some ⟨gc, 0, none⟩) (some ⟨w24.heap.size, 0, none⟩) 1 1 cc 1 _ (reads_on hzc hal) hlit (by omega)).mono fun e w' ⟨he, hb⟩ => ⟨he, hal.trans (hb.mono (by simp))⟩
  clear hlit hal
  go_wp2_with fail
  go_region_held3 (fun w' => (w'.cell? ⟨w16.heap.size, 0, none⟩ = some (.int .i64 0) ∧ w'.cell? ⟨w16.heap.size, 1, none⟩ = some (.int .u64 3) ∧ w'.cell? ⟨w16.heap.size, 2, none⟩ = some (.int .i64 1) ∧ w'.cell? ⟨w16.heap.size, 3, none⟩ = some (.int .i64 (-1))) ∧ w'.cell? ⟨gc, 0, none⟩ = some (.int .i64 0) ∧ w'.cell? ⟨gc, 1, none⟩ = some (.int .u64 3) ∧ w'.cell? ⟨gc, 2, none⟩ = some (.int .i64 1) ∧ w'.cell? ⟨gc, 3, none⟩ = some (.int .i64 (-1)))
    (first
      | go_keep
      | exact ⟨⟨y0, y1, y2, y3⟩, d0, d1, d2, d3⟩)
    ((go_at_call 16; with_reducible refine hsame.mono ?_; rintro e w25 ⟨rfl, hq⟩; have y0 := (hq.cell (p := ⟨w16.heap.size, 0, none⟩) hlX).trans x0; have y1 := (hq.cell (p := ⟨w16.heap.size, 1, none⟩) hlX).trans x1; have y2 := (hq.cell (p := ⟨w16.heap.size, 2, none⟩) hlX).trans x2; have y3 := (hq.cell (p := ⟨w16.heap.size, 3, none⟩) hlX).trans x3; have d0 := (hq.cell (p := ⟨gc, 0, none⟩) hgl).trans c0; have d1 := (hq.cell (p := ⟨gc, 1, none⟩) hgl).trans c1; have d2 := (hq.cell (p := ⟨gc, 2, none⟩) hgl).trans c2; have d3 := (hq.cell (p := ⟨gc, 3, none⟩) hgl).trans c3))
  clear hsame hzc heq c0 c1 c2 c3 x0 x1 x2 x3
  have hb25 := below_on hb24 hq
  clear hq hb24
  have hz25 := Lib.hid hb25.out.size
  go_wp2_with fail
  refine (example_any w25).mono ?_
  rintro e w26 ⟨rfl, hrd, hblk, hb⟩
  have hb26 := below_on hb25 hb
  clear hb25 hb hrd
  have e3 : w26.cell? ⟨w25.heap.size, 11, none⟩ = some (.int .u64 3) := (hblk.out.cell 11).trans rfl
  have f3 := hblk.out.frozen 11
  have hset : Hid (Blk (w26.setCell ⟨w25.heap.size, 11, none⟩ (.int .u64 2)) w25.heap.size 58 (evs exW).toArray) := hblk.out.set_ 11 (.int .u64 2)
  have hr27 := reads_blk (n := 6) (size := 4) hset.out rfl
  have hb27 : Hid (Below w.heap.size w (w26.setCell ⟨w25.heap.size, 11, none⟩ (.int .u64 2))) := hb26.out.setCell hz25.out _
  clear hset hblk hb26 hz25
  go_wp2_with fail
  refine (check_at exW (some ⟨w25.heap.size, 0, none⟩) 6 6 (w26.setCell ⟨w25.heap.size, 11, none⟩ (.int .u64 2)) hr27 (by omega)).mono ?_
  rintro e w28 ⟨hE, hb⟩
  rw [aw_bad.1, aw_bad.2] at hE
  subst hE
  have hb28 := below_on hb27 hb
  clear hb27 hb hr27 e3 f3
  go_wp2_with fail
  refine (example_any w28).mono ?_
  rintro e w29 ⟨rfl, hrd, hblk, hb⟩
  have hb29 := below_on hb28 hb
  have hr29 : Hid (Reads w29 w29.heap.size 4 (some ⟨w28.heap.size, 4, none⟩) 5 (evs (exE.drop 1))) := by
    have h := hrd.out.cut (k := 1) (cap := 6) (by omega) (by omega)
    exact h
  clear hrd hblk hb28 hb
  go_wp2_with fail
  refine (check_at (exE.drop 1) (some ⟨w28.heap.size, 4, none⟩) 5 5 w29 hr29 (by omega)).mono ?_
  rintro e w30 ⟨hE, hb⟩
  rw [aw_cut.1, aw_cut.2] at hE
  subst hE
  have hb30 := below_on hb29 hb
  clear hb29 hb hr29
  go_wp2_with fail
  go_ret
  exact ⟨rfl, hb30.out⟩
end Go.Proofs.Ytbdnpgagbjkapaa
