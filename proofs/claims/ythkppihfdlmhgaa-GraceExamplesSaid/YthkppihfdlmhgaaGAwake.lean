/- The fixed example of chapter 21, walked (printed by gen_awake.py). -/
import Derived.Test.YthkppihfdlmhgaaGExm
import Derived.Deep.RegionHeld3
import Derived.Deep.DrawnRows
import Derived.Deep.CutBlock
import Derived.Deep.RegionLawGrows
namespace Go.Proofs.Ythkppihfdlmhgaa
open Go Go.RowKit
set_option linter.unusedVariables false
attribute [local go_sem ↓] Go.wp_at_zero Go.wp_at_succ

theorem reads_cell {w : World} {B size n : Nat} {ad : Addr} {xs : List Value} (h : Reads w B size (some ad) n xs) (hn : 0 < n) : ∀ j u, xs[j]? = some u → w.cell? (ad.add j) = some u := by
  obtain ⟨a, e, _, hc⟩ := h.2 hn
  obtain rfl := Option.some.inj e
  exact hc
theorem first3 {w : World} {o : Obj} {A : Option Addr} (h : Hid (Reads w w.heap.size 4 A 5 (evs exG))) : Hid (Reads (w.alloc o) (w.alloc o).heap.size 4 A 3 (evs (exG.take 3))) := by
  have h2 := h.out.take_ (m := 3) (by omega)
  rw [evs_take] at h2
  exact (h2.below ((Below.refl _ w).alloc (Nat.le_refl _) o)).more (by simp)
theorem ownsRow_succ {W : World} {base : Nat} {e : TypeId} {size : Nat} {v : Value} {k : Nat} {xs : List Value} (h : W.ownsRow base e size v (k + 1) xs) : ∃ g cap, v = .slice (some ⟨g, 0, none⟩) (k + 1) cap := by
  obtain ⟨A, c, rfl, _⟩ := own_form h
  obtain ⟨g, rfl, _⟩ := own_at h (by omega)
  exact ⟨g, c, rfl⟩

set_option maxRecDepth 100000 in
set_option maxHeartbeats 8000000 in
theorem awake_any (w : World) : Calls Try.prog 13 #[] w fun e w' => e = .returned (.bool true) ∧ Below w.heap.size w w' := by
  go_enter Try.func13, Try.ntmps13
  have hb0 : Hid (Below w.heap.size w w) := Below.refl _ _
  go_wp2_with fail
  refine (example_any w).mono ?_
  rintro e w1 ⟨rfl, hrd, hblk, hb⟩
  have hb1 := below_on hb0 hb
  have x1 := hrd
  clear hb0 hb
  clear hblk hrd
  go_wp2_with fail
  refine (gcheck_at exG (some ⟨w.heap.size, 0, none⟩) 5 5 w1 x1 (by omega) (Lib.hid exG_wf)).mono ?_
  rintro e w2 ⟨hE, hb⟩
  rw [exG_g.1, exG_g.2] at hE
  subst hE
  have hb2 := below_on hb1 hb
  clear hb1 hb x1
  go_wp2_with fail
  refine (example_any w2).mono ?_
  rintro e w3 ⟨rfl, hrd, hblk, hb⟩
  have hb3 := below_on hb2 hb
  have x3 := hrd
  clear hb2 hb
  clear hblk hrd
  go_wp2_with fail
  refine (gleast_any exG (some ⟨w2.heap.size, 0, none⟩) 5 5 w3 x3 (by omega) (Lib.hid exG_wf)).mono ?_
  rintro e w4 ⟨Al, nl, cl, hE, hn, ho, hb⟩
  rw [exG_er] at hE
  rw [exG_lea] at hn ho
  have hn' : nl = 1 := hn.out
  clear hn
  subst hn'
  subst hE
  obtain ⟨zl, kl, kl'⟩ := own_reads ho.out
  clear ho
  have hb4 := below_on hb3 hb
  have l4 := zl
  clear hb3 hb x3
  clear zl
  go_wp2_with fail
  refine (example_any w4).mono ?_
  rintro e w5 ⟨rfl, hrd, hblk, hb⟩
  have hb5 := below_on hb4 hb
  have l5 := reads_on l4 hb
  have x5 := hrd
  clear hb4 hb l4
  clear hblk hrd
  go_wp2_with fail
  refine (gmust_any exG 0 (some ⟨w4.heap.size, 0, none⟩) 5 5 w5 x5 (by omega) exG_wf).mono ?_
  rintro e w6 ⟨As, ns, cs, hE, hn, ho, hb⟩
  rw [exG_mue] at hE
  rw [exG_mu] at hn ho
  dsimp only [List.length_cons, List.length_nil] at hn
  subst hn
  subst hE
  obtain ⟨zs, ks, ks'⟩ := own_reads ho
  clear ho
  have hb6 := below_on hb5 hb
  have l6 := reads_on l5 hb
  have s6 := zs
  clear hb5 hb l5 x5
  clear zs
  have hb : Below w6.heap.size w6 (w6.alloc (.cells #[.int .i64 5] 3)) := (Below.refl _ _).alloc (Nat.le_refl _) _
  have hb7 := below_on hb6 hb
  have l7 := reads_on l6 hb
  have s7 := reads_on s6 hb
  have e17 : Hid (Reads (w6.alloc (.cells #[.int .i64 5] 3)) (w6.alloc (.cells #[.int .i64 5] 3)).heap.size 1 (some ⟨w6.heap.size, 0, none⟩) 1 (is_ ([5] : List Int))) := reads_row w6 3 (is_ ([5] : List Int)) 1 rfl
  clear hb6 hb l6 s6
  go_wp2_with fail
  refine (sameInts [5] Al (some ⟨w6.heap.size, 0, none⟩) 1 1 cl 1 (w6.alloc (.cells #[.int .i64 5] 3)) l7 e17 (by omega)).mono ?_
  rintro e w8 ⟨rfl, hb⟩
  have hb8 := below_on hb7 hb
  have s8 := reads_on s7 hb
  clear hb7 hb l7 s7 e17
  have hb : Below w8.heap.size w8 (w8.alloc (.cells #[.int .i64 0, .int .u64 3, .int .i64 1, .int .i64 4] 43)) := (Below.refl _ _).alloc (Nat.le_refl _) _
  have hb9 := below_on hb8 hb
  have s9 := reads_on s8 hb
  have e29 : Hid (Reads (w8.alloc (.cells #[.int .i64 0, .int .u64 3, .int .i64 1, .int .i64 4] 43)) (w8.alloc (.cells #[.int .i64 0, .int .u64 3, .int .i64 1, .int .i64 4] 43)).heap.size 4 (some ⟨w8.heap.size, 0, none⟩) 1 (secs ([⟨0, 3, 1, 4⟩] : List Sec))) := reads_row w8 43 (secs ([⟨0, 3, 1, 4⟩] : List Sec)) 1 rfl
  clear hb8 hb s8
  go_wp2_with fail
  refine (sameSe [⟨0, 3, 1, 4⟩] As (some ⟨w8.heap.size, 0, none⟩) 1 1 cs 1 (w8.alloc (.cells #[.int .i64 0, .int .u64 3, .int .i64 1, .int .i64 4] 43)) s9 e29 (by omega)).mono ?_
  rintro e w10 ⟨rfl, hb⟩
  have hb10 := below_on hb9 hb
  clear hb9 hb s9 e29
  obtain ⟨i0, hi0, hz0, hz1, hz2⟩ := info_parts infoEv
  have hszA := hb10.out.size
  go_upto_region 6 with fail
  go_cut [7] from 62 to 68 (fun s7 wx => ∃ (g c : Nat), s7 = .slice (some ⟨g, 0, none⟩) 4 c ∧ Hid (wx.ownsRow w.heap.size 37 4 (.slice (some ⟨g, 0, none⟩) 4 c) 4 (evs exH)) ∧ Hid (Below w.heap.size w wx))
  case first =>
    go_region_law? (first
      | (go_simp; go_at_call 14; refine (example_at wA wA.heap.size rfl).mono ?_; rintro e wB ⟨rfl, hr2, hk2, hq2⟩; have hr3 : Hid (Reads (wB.alloc (.cells (evC ⟨5, 1, 4, 8⟩).toArray 37)) (wB.alloc (.cells (evC ⟨5, 1, 4, 8⟩).toArray 37)).heap.size 4 (some ⟨w10.heap.size, 0, none⟩) 3 (evs (exG.take 3))) := first3 (reads_on hr1 hq2); have c16 := hk2.out.cell 16; have c17 := hk2.out.cell 17; have c18 := hk2.out.cell 18; have c19 := hk2.out.cell 19; have hbB := below_on hbA hq2; simp only [exGC, exG, evs, evC, List.flatMap_cons, List.flatMap_nil, List.cons_append, List.nil_append, List.append_nil, List.getElem?_toArray, List.getElem?_cons_succ, List.getElem?_cons_zero] at c16 c17 c18 c19; dsimp only)
      | (go_simp; go_at_call 14; refine (example_at w10.drew w10.heap.size rfl).mono ?_; rintro e wA ⟨rfl, hr1, hk1, hq1⟩; have hbA := below_on (Lib.hid hb10.out.drew) hq1; dsimp only)
      | (refine step_append_grows rfl (.tmp 63) (.tmp 67) 22 rfl 37 i0 _ 4 32 Try.underlying22 hi0 hz0 hz1 hz2 rfl (by decide) (some ⟨w10.heap.size, 0, none⟩) 3 3 (evs (exG.take 3)) rfl (by intro h; cases h) rfl ?ho ⟨wB.heap.size, 0, none⟩ 1 1 (evC ⟨5, 1, 4, 8⟩) rfl rfl ?hc (evC_one _) (by decide) (by decide) (by decide) ?k; (case ho => intro b hb; cases hb; exact reads_cell hr3.out (by decide)); (case hc => exact reads_cell (reads_row wB 37 (evC ⟨5, 1, 4, 8⟩) 1 (size := 4) rfl).out (by decide)); intro v1 wC hown hgrow; obtain ⟨g1, k1, rfl⟩ := ownsRow_succ hown))
    all_goals
      have hszB := hbB.out.size
      have hbC : Hid (Below w.heap.size w wC) := (hbB.out.alloc hszB _).grown hgrow (by simp; omega) (fun k e => by cases e)
      have hownC := Lib.hid (own_base hown (show w.heap.size ≤ (wB.alloc (.cells (evC ⟨5, 1, 4, 8⟩).toArray 37)).heap.size by simp; omega))
      clear hown hgrow hr1 hr2 hr3 hk1 hk2 hq1 hq2 hbA hbB c16 c17 c18 c19
      go_wp2_with fail
      go_meet
      exact ⟨g1, k1, rfl, hownC, hbC⟩
  case rest =>
    obtain ⟨g, c, rfl, hown, hb40⟩ := hcut
    obtain ⟨w40, rfl⟩ : ∃ w40 : World, w40 = wc := ⟨_, rfl⟩
    have hr40 := (own_reads hown.out).1
    clear hb10
    go_wp2_with fail
    refine (gcheck_at exH (some ⟨g, 0, none⟩) 4 c w40 hr40 (by omega) (Lib.hid exH_wf)).mono ?_
    rintro e w41 ⟨hE, hb⟩
    rw [exH_g.1, exH_g.2] at hE
    subst hE
    have hb41 := below_on hb40 hb
    have hown41 : w41.ownsRow w.heap.size 37 4 (.slice (some ⟨g, 0, none⟩) 4 c) 4 (evs exH) := own_below hown.out hb
    have hown42 := (hown41.stored 7 (.int .u64 1)).1
    have hown43 := Lib.hid (hown42.stored 15 (.int .u64 1)).1
    have q7 := (hown41.cellAt 7 (by omega)).trans (show (evs exH)[7]? = some (.int .u64 8) from rfl)
    have q15 := (hown42.cellAt 15 (by omega)).trans (show ((evs exH).set 7 (.int .u64 1))[15]? = some (.int .u64 8) from rfl)
    have f7 := hown41.frozenAt 7
    have f15 := hown42.frozenAt 15
    have hgw : w.heap.size ≤ g := (hown41.lt g rfl).1
    have hb43 : Hid (Below w.heap.size w ((w41.setCell ⟨g, 7, none⟩ (.int .u64 1)).setCell ⟨g, 15, none⟩ (.int .u64 1))) := (hb41.out.setCell (p := ⟨g, 7, none⟩) hgw _).setCell (p := ⟨g, 15, none⟩) hgw _
    have hr43 : Hid (Reads ((w41.setCell ⟨g, 7, none⟩ (.int .u64 1)).setCell ⟨g, 15, none⟩ (.int .u64 1)) ((w41.setCell ⟨g, 7, none⟩ (.int .u64 1)).setCell ⟨g, 15, none⟩ (.int .u64 1)).heap.size 4 (some ⟨g, 0, none⟩) 4 (evs exJ)) := (own_reads hown43.out).1
    clear hb hb40 hb41 hown hown41 hown42 hown43 hr40
    go_wp2_with fail
    refine (gcheck_at exJ (some ⟨g, 0, none⟩) 4 c _ hr43 (by omega) (Lib.hid exJ_wf)).mono ?_
    rintro e w44 ⟨hE, hb⟩
    rw [exJ_g.1, exJ_g.2] at hE
    subst hE
    have hb44 := below_on hb43 hb
    clear hb hb43 hr43 q7 q15 f7 f15 hgw
    go_wp2_with fail
    refine (example_any w44).mono ?_
    rintro e w45 ⟨rfl, hrd, hblk, hb⟩
    have hb45 := below_on hb44 hb
    have x45 := hrd
    clear hb44 hb
    clear hblk hrd
    go_wp2_with fail
    refine (over_any exG 4 8 (some ⟨w44.heap.size, 0, none⟩) 5 5 w45 x45 (by omega) exG_wf (by decide) (by decide)).mono ?_
    rintro e w46 ⟨Ay, ny, cy, hE, hn, ho, hb⟩
    rw [exG_o4.2] at hE
    rw [exG_o4.1] at hn
    subst hn
    subst hE
    clear ho
    have hb46 := below_on hb45 hb
    clear hb45 hb x45
    go_wp2_with fail
    refine (example_any w46).mono ?_
    rintro e w47 ⟨rfl, hrd, hblk, hb⟩
    have hb47 := below_on hb46 hb
    have x47 := hrd
    clear hb46 hb
    clear hblk hrd
    go_wp2_with fail
    refine (over_any exG 5 8 (some ⟨w46.heap.size, 0, none⟩) 5 5 w47 x47 (by omega) exG_wf (by decide) (by decide)).mono ?_
    rintro e w48 ⟨Az, nz, cz, hE, hn, ho, hb⟩
    rw [exG_o5.2] at hE
    rw [exG_o5.1] at hn ho
    dsimp only [List.length_cons, List.length_nil] at hn
    subst hn
    subst hE
    obtain ⟨zz, kz, kz'⟩ := own_reads ho
    obtain ⟨gz, rfl, _, _⟩ := own_at ho (by omega)
    clear ho
    have hb48 := below_on hb47 hb
    have z48 := zz
    clear hb47 hb x47
    clear zz
    go_wp2_with fail
    refine (example_any w48).mono ?_
    rintro e w49 ⟨rfl, hrd, hblk, hb⟩
    have hb49 := below_on hb48 hb
    have z49 := reads_on z48 hb
    have x49 := hrd
    clear hb48 hb z48
    clear hblk hrd
    go_wp2_with fail
    refine (over_any exG 1 8 (some ⟨w48.heap.size, 0, none⟩) 5 5 w49 x49 (by omega) exG_wf (by decide) (by decide)).mono ?_
    rintro e w50 ⟨Aw, nw, cw, hE, hn, ho, hb⟩
    rw [exG_o1.2] at hE
    rw [exG_o1.1] at hn
    dsimp only [List.length_nil] at hn
    subst hn
    subst hE
    clear ho
    have hb50 := below_on hb49 hb
    have z50 := reads_on z49 hb
    clear hb49 hb z49 x49
    go_wp2_with fail
    refine (example_any w50).mono ?_
    rintro e w51 ⟨rfl, hrd, hblk, hb⟩
    have hb51 := below_on hb50 hb
    have z51 := reads_on z50 hb
    have x51 := hrd
    clear hb50 hb z50
    clear hblk hrd
    go_wp2_with fail
    refine (gmust_any exG 1 (some ⟨w50.heap.size, 0, none⟩) 5 5 w51 x51 (by omega) exG_wf).mono ?_
    rintro e w52 ⟨Am, nm, cm, hE, hn, ho, hb⟩
    rw [exG_mu1] at hE
    rw [exG_mul1] at hn
    dsimp only [List.length_nil] at hn
    subst hn
    subst hE
    clear ho
    have hb52 := below_on hb51 hb
    have z52 := reads_on z51 hb
    clear hb51 hb z51 x51
    go_wp2_with fail
    refine (example_any w52).mono ?_
    rintro e w53 ⟨rfl, hrd, hblk, hb⟩
    have hb53 := below_on hb52 hb
    have z53 := reads_on z52 hb
    have x53 := hrd
    clear hb52 hb z52
    clear hblk hrd
    go_wp2_with fail
    refine (over_any exG 0 0 (some ⟨w52.heap.size, 0, none⟩) 5 5 w53 x53 (by omega) exG_wf (by decide) (by decide)).mono ?_
    rintro e w54 ⟨Ao, no, co, hE, hn, ho, hb⟩
    rw [exG_o0.2] at hE
    rw [exG_o0.1] at hn
    dsimp only [List.length_nil] at hn
    subst hn
    subst hE
    clear ho
    have hb54 := below_on hb53 hb
    have z54 := reads_on z53 hb
    clear hb53 hb z53 x53
    obtain ⟨qe, hq, z0, z1, z2, z3⟩ := sec_at z54.out (show 0 < 0 + 1 by omega)
    obtain rfl := Option.some.inj hq
    dsimp only at z0 z1 z2 z3
    simp only [Nat.zero_mul, Nat.add_zero, Nat.zero_add] at z0 z1 z2 z3
    clear z54 z1 z2 z3
    go_wp2_with fail
    go_ret
    exact ⟨rfl, hb54.out⟩
end Go.Proofs.Ythkppihfdlmhgaa
