/- The reference's map, walked: Pairs, Copy, Range, New. -/
import Derived.Test.YtfghkmhabpagkaaRefMeth
import Derived.Test.YtfghkmhabpagkaaSt
import Derived.Test.YtfghkmhabpagkaaMade
namespace Go.Proofs.Ytfghkmhabpagkaa
open Go Go.RowKit
set_option linter.unusedVariables false

set_option maxHeartbeats 4000000 in
theorem rpairs_any (l : List Pr) (g : Nat) (w : World) (hm : Hid (IsM w g l)) (hl : l.length ≤ 900000) :
    Calls Try.prog 24 #[.pointer (some ⟨g, 0, none⟩)] w (CloneEnd l l.length w) := by
  obtain ⟨i0, hi0, hz0, hz1, hz2⟩ := info_parts infoPair
  obtain ⟨A, n, c, hB, hr, hn, hnc, hc⟩ := hm.out
  have hg : w.cell? ⟨g, 0, none⟩ = some (.slice A n c) := by simpa using hB.cell 0
  obtain rfl := prs_n hr
  have hrh := Lib.hid hr
  have hBh := Lib.hid hB
  have hbe := (Below.refl _ w).alloc (Nat.le_refl _) (.cells #[] 38)
  have hg2 : (w.alloc (.cells #[] 38)).cell? ⟨g, 0, none⟩ = some (.slice A l.length c) := (hbe.cell (p := ⟨g, 0, none⟩) hB.lt).trans hg
  generalize hL : l.length = L at *
  have hLh := Lib.hid hL
  clear hr hm hB hbe hL
  go_enter Try.func24, Try.ntmps24
  go_wp2_with (at_builtin; refine wpList_append_any _ rfl (.tmp 5) (.tmp 9) 22 rfl w.heap.size 38 i0 _ 2 16 Try.underlying22 hi0 hz0 hz1 hz2 rfl (by decide) (.slice (some ⟨w.heap.size, 0, none⟩) 0 0) 0 [] rfl (own_lit w #[] 0 _ rfl (Nat.le_refl _) (Nat.zero_le _) rfl) w.heap.size A L c (prs l) rfl (hrh.out.alloc (Nat.le_refl _) _) (prs_one _) (by unfold maxLen; omega) (by omega) (by simp) ?_; intro v1 w1 hown1 hg1 hat1)
  have hb1 : Hid (Below w.heap.size w w1) := ((Below.refl _ _).alloc (Nat.le_refl _) _).grown hg1 (by simp) (fun q hq => by simp [Value.ownBlock] at hq; omega)
  rw [Nat.zero_add, List.nil_append] at hown1
  obtain ⟨x, cx, rfl, hcx, hcx'⟩ := own_form hown1
  have hown := Lib.hid hown1
  clear hown1 hg1 hat1 hcx hcx'
  go_wp2_with fail
  go_ret
  exact ⟨x, cx, rfl, hown.out, hb1.out⟩
set_option maxRecDepth 100000 in
set_option maxHeartbeats 4000000 in
theorem rcopy_any (l : List Pr) (g : Nat) (w : World) (hm : Hid (IsM w g l)) (hl : l.length ≤ 900000) :
    Calls Try.prog 41 #[.pointer (some ⟨g, 0, none⟩)] w fun e w' => ∃ g', e = .returned (.pointer (some ⟨g', 0, none⟩)) ∧ w.heap.size ≤ g' ∧ IsM w' g' l ∧ Below w.heap.size w w' := by
  obtain ⟨i0, hi0, hz0, hz1, hz2⟩ := info_parts infoPair
  obtain ⟨A, n, c, hB, hr, hn, hnc, hc⟩ := hm.out
  have hg : w.cell? ⟨g, 0, none⟩ = some (.slice A n c) := by simpa using hB.cell 0
  obtain rfl := prs_n hr
  have hrh := Lib.hid hr
  have hbe := (Below.refl _ w).alloc (Nat.le_refl _) (.cells #[] 38)
  have hg2 : (w.alloc (.cells #[] 38)).cell? ⟨g, 0, none⟩ = some (.slice A l.length c) := (hbe.cell (p := ⟨g, 0, none⟩) hB.lt).trans hg
  generalize hL : l.length = L at *
  have hLh := Lib.hid hL
  clear hr hm hB hbe hL
  go_enter Try.func41, Try.ntmps41
  go_wp2_with (at_builtin; refine wpList_append_any _ rfl (.tmp 5) (.tmp 9) 22 rfl w.heap.size 38 i0 _ 2 16 Try.underlying22 hi0 hz0 hz1 hz2 rfl (by decide) (.slice (some ⟨w.heap.size, 0, none⟩) 0 0) 0 [] rfl (own_lit w #[] 0 _ rfl (Nat.le_refl _) (Nat.zero_le _) rfl) w.heap.size A L c (prs l) rfl (hrh.out.alloc (Nat.le_refl _) _) (prs_one _) (by unfold maxLen; omega) (by omega) (by simp) ?_; intro v1 w1 hown1 hg1 hat1; rw [Nat.zero_add, List.nil_append] at hown1; obtain ⟨x, cx, rfl, hcx, hcx'⟩ := own_form hown1)
  have hb1 : Hid (Below w.heap.size w w1) := ((Below.refl _ _).alloc (Nat.le_refl _) _).grown hg1 (by simp) (fun q hq => by simp [Value.ownBlock] at hq; omega)
  have hbe2 : Below w1.heap.size w1 (w1.alloc (.cells #[.slice x L cx] 85)) := (Below.refl _ _).alloc (Nat.le_refl _) _
  have hM : Hid (IsM (w1.alloc (.cells #[.slice x L cx] 85)) w1.heap.size l) := by
    refine ⟨x, L, cx, Blk.new _ _ _, ?_, by omega, hcx, by unfold maxLen at hcx'; omega⟩
    exact ((Reads.of_own hown1).below hbe2).more hbe2.size
  have hb2 := below_on hb1 hbe2
  have hs1 := Lib.hid hb1.out.size
  clear hown1 hg1 hat1 hcx hcx' hbe2 hb1
  go_wp2_with fail
  go_ret
  exact ⟨w1.heap.size, rfl, hs1.out, hM.out, hb2.out⟩
set_option maxHeartbeats 4000000 in
theorem rrange_any (l : List Pr) (g : Nat) (lo hi : Int) (w : World) (hm : Hid (IsM w g l)) (hl : l.length ≤ 900000) (h : lo ≤ hi) :
    Calls Try.prog 23 #[.pointer (some ⟨g, 0, none⟩), .agg #[.int .u64 lo, .int .u64 hi]] w fun e w' => ∃ A c, e = .returned (.tuple #[.slice A (inR lo hi l).length c, .int .i64 0]) ∧ w'.ownsRow w.heap.size 38 2 (.slice A (inR lo hi l).length c) (inR lo hi l).length (prs (inR lo hi l)) ∧ Below w.heap.size w w' := by
  have hd : decide (hi < lo) = false := decide_eq_false (by omega)
  obtain ⟨W, hW⟩ : ∃ W, w.alloc (.cells #[.int .u64 lo, .int .u64 hi] 25) = W := ⟨_, rfl⟩
  have hb0 : Hid (Below w.heap.size w W) := by rw [← hW]; exact (Below.refl _ _).alloc (Nat.le_refl _) _
  have hBs : Hid (Blk W w.heap.size 25 #[.int .u64 lo, .int .u64 hi]) := by rw [← hW]; exact Blk.new w _ _
  have hmW : Hid (IsM W g l) := hm.out.below hb0.out
  have c0 := hBs.out.cell 0
  have c1 := hBs.out.cell 1
  simp only [List.getElem?_toArray, List.getElem?_cons_zero, List.getElem?_cons_succ] at c0 c1
  have hc := rcopy_any l g W hmW hl
  clear hm
  go_enter Try.func23, Try.ntmps23
  go_wp2_with fail
  try rw [hW]
  clear hW
  refine hc.mono ?_
  rintro e w1 ⟨g', rfl, hg', hM, hb⟩
  have hb1 := below_on hb0 hb
  have d0 := (hb.cell (p := ⟨w.heap.size, 0, none⟩) hBs.out.lt).trans c0
  have d1 := (hb.cell (p := ⟨w.heap.size, 1, none⟩) hBs.out.lt).trans c1
  have hMh := Lib.hid hM
  have hgw : Hid (w.heap.size ≤ g') := Nat.le_trans hb0.out.size hg'
  clear hb c0 c1 hM hc hg'
  go_wp2_with fail
  refine (cut_any l g' lo hi w1 hMh).mono ?_
  rintro e w2 ⟨A, c, rfl, hown, hE⟩
  have hs1 := hb1.out.size
  have hown2 := Lib.hid (own_base hown (show w.heap.size ≤ w1.heap.size + 1 by omega))
  have hb2 : Hid (Below w.heap.size w w2) := below_map hb1.out hE.2 hs1 hgw.out
  generalize hL : (inR lo hi l).length = L at *
  have hLh := Lib.hid hL
  clear hown hE d0 d1 hL
  go_wp2_with fail
  go_ret2
  exact ⟨A, c, by rw [hLh.out]; rfl, by rw [hLh.out]; exact hown2.out, hb2.out⟩
theorem rrange_no (g : Nat) (lo hi : Int) (w : World) (h : hi < lo) :
    Calls Try.prog 23 #[.pointer (some ⟨g, 0, none⟩), .agg #[.int .u64 lo, .int .u64 hi]] w fun e w' => e = .returned (.tuple #[.slice none 0 0, .int .i64 13]) ∧ Below w.heap.size w w' := by
  have hd : decide (hi < lo) = true := decide_eq_true h
  have hb0 : Hid (Below w.heap.size w (w.alloc (.cells #[.int .u64 lo, .int .u64 hi] 25))) := (Below.refl _ _).alloc (Nat.le_refl _) _
  go_enter Try.func23, Try.ntmps23
  go_wp2_with fail
  go_ret2
  exact ⟨rfl, hb0.out⟩
theorem rrange_nil (lo hi : Int) (w : World) :
    Calls Try.prog 23 #[.pointer none, .agg #[.int .u64 lo, .int .u64 hi]] w fun e w' => e = .returned (.tuple #[.slice none 0 0, .int .i64 1]) ∧ Below w.heap.size w w' := by
  have hb0 : Hid (Below w.heap.size w (w.alloc (.cells #[.int .u64 lo, .int .u64 hi] 25))) := (Below.refl _ _).alloc (Nat.le_refl _) _
  go_enter Try.func23, Try.ntmps23
  go_wp2_with fail
  go_ret2
  exact ⟨rfl, hb0.out⟩
theorem rpairs_nil (w : World) : Calls Try.prog 24 #[.pointer none] w fun e w' => e = .returned (.slice none 0 0) ∧ Below w.heap.size w w' := by
  have hb : Below w.heap.size w w := Below.refl _ _
  go_enter Try.func24, Try.ntmps24
  go_wp2_with fail
  go_ret
  exact ⟨rfl, hb⟩
end Go.Proofs.Ytfghkmhabpagkaa
