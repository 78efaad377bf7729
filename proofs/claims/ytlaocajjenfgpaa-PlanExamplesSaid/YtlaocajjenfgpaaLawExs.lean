/- The law PlanExamples, walked (printed by gen_lawex.py). -/
import Derived.Test.YtlaocajjenfgpaaExM
import Derived.Test.YtlaocajjenfgpaaOne
namespace Go.Proofs.Ytlaocajjenfgpaa
open Go Go.RowKit
set_option linter.unusedVariables false

theorem ex_move1 : outM 1 2 1 ([⟨1, 10⟩, ⟨2, 20⟩, ⟨3, 30⟩] : List Pr) = (([⟨1, true, 10, false, 0⟩, ⟨2, true, 20, true, 10⟩, ⟨3, true, 30, true, 20⟩] : List Chg), 0) := by rw [outM_ok (srtB_yes rfl) (by decide) (by decide) (by decide)]; rfl
theorem ex_move2 : outM 1 1 2 ([⟨1, 10⟩, ⟨7, 70⟩] : List Pr) = (([⟨1, true, 10, false, 0⟩, ⟨3, false, 0, true, 10⟩] : List Chg), 0) := by rw [outM_ok (srtB_yes rfl) (by decide) (by decide) (by decide)]; rfl
theorem ex_move3 : outM 5 6 1 ([⟨1, 10⟩, ⟨2, 20⟩, ⟨3, 30⟩] : List Pr) = ([], 0) := by rw [outM_ok (srtB_yes rfl) (by decide) (by decide) (by decide)]; rfl
theorem ex_del : outD 2 9 ([⟨1, 10⟩, ⟨2, 20⟩, ⟨9, 90⟩] : List Pr) = (([⟨2, true, 20, false, 0⟩, ⟨9, true, 90, false, 0⟩] : List Chg), 0) := by rw [outD_ok (srtB_yes rfl) (by decide)]; rfl
theorem ex_move4 : outM 1 1 0 ([⟨1, 10⟩, ⟨2, 20⟩, ⟨3, 30⟩] : List Pr) = ([], 13) := outM_zero (srtB_yes rfl) (by decide)
theorem ex_move5 : outM 2 1 1 ([⟨2, 0⟩, ⟨1, 0⟩] : List Pr) = ([], 2) := outM_no (srtB_no rfl)
theorem ex_move6 : outM 1 9 18446744073709551607 ([⟨1, 10⟩, ⟨2, 20⟩, ⟨3, 30⟩] : List Pr) = ([], 12) := outM_over (srtB_yes rfl) (by decide) (by decide) (by decide)
theorem ex_app1 : outA ([⟨1, 10⟩, ⟨2, 20⟩, ⟨3, 30⟩] : List Pr) ([⟨1, true, 10, false, 0⟩, ⟨2, true, 20, true, 10⟩, ⟨3, true, 30, true, 20⟩] : List Chg) = (([⟨2, 10⟩, ⟨3, 20⟩] : List Pr), 0) := by unfold outA; rw [if_pos ⟨srtB_yes rfl, planB_yes rfl⟩]; rfl
theorem ex_app2 : outA ([⟨1, 11⟩, ⟨2, 20⟩, ⟨3, 30⟩] : List Pr) ([⟨1, true, 10, false, 0⟩, ⟨2, true, 20, true, 10⟩, ⟨3, true, 30, true, 20⟩] : List Chg) = ([], 8) := by unfold outA; rw [if_pos ⟨srtB_yes rfl, planB_yes rfl⟩]; rfl
theorem ex_inv : outI ([⟨1, true, 10, false, 0⟩, ⟨2, true, 20, true, 10⟩, ⟨3, true, 30, true, 20⟩] : List Chg) = (([⟨1, false, 0, true, 10⟩, ⟨2, true, 10, true, 20⟩, ⟨3, true, 20, true, 30⟩] : List Chg), 0) := by unfold outI; rw [if_pos (planB_yes rfl)]; rfl
theorem ex_cnt : outN ([⟨1, true, 10, false, 0⟩, ⟨2, true, 20, true, 10⟩, ⟨3, true, 30, true, 20⟩] : List Chg) = (0, 1, 2, 0) := by unfold outN; rw [if_pos (planB_yes rfl)]; rfl
theorem ex_then1 : outT ([⟨1, true, 10, false, 0⟩, ⟨3, false, 0, true, 10⟩] : List Chg) ([⟨3, true, 10, false, 0⟩] : List Chg) = (([⟨1, true, 10, false, 0⟩] : List Chg), 0) := by unfold outT; rw [if_pos ⟨planB_yes rfl, planB_yes rfl⟩]; rfl
theorem ex_then2 : outT ([⟨1, true, 10, true, 11⟩] : List Chg) ([⟨1, true, 10, true, 12⟩] : List Chg) = ([], 8) := by unfold outT; rw [if_pos ⟨planB_yes rfl, planB_yes rfl⟩]; rfl
theorem ex_then3 : outT ([⟨1, false, 0, true, 5⟩] : List Chg) ([⟨1, true, 5, false, 0⟩] : List Chg) = ([], 0) := by unfold outT; rw [if_pos ⟨planB_yes rfl, planB_yes rfl⟩]; rfl
theorem ex_chk1 : outK ([⟨1, false, 0, false, 0⟩] : List Chg) = 2 := by unfold outK; rw [if_neg (planB_no rfl)]
theorem ex_chk2 : outK ([⟨2, true, 1, false, 0⟩, ⟨2, false, 0, true, 1⟩] : List Chg) = 2 := by unfold outK; rw [if_neg (planB_no rfl)]
theorem ex_chk3 : outK ([⟨2, false, 1, true, 0⟩] : List Chg) = 2 := by unfold outK; rw [if_neg (planB_no rfl)]
theorem ex_chk4 : outK [] = 0 := by unfold outK; rw [if_pos (planB_yes rfl)]

set_option maxRecDepth 100000 in
set_option maxHeartbeats 4000000 in
theorem examples_law (w : World) : Calls Try.prog 9 #[] w fun e w' => e = .returned (.bool true) ∧ Below w.heap.size w w' := by
  go_enter Try.func9, Try.ntmps9
  have hb0 : Hid (Below w.heap.size w w) := Below.refl _ _
  go_wp2_with fail
  have hb : Below w.heap.size w (w.alloc (.cells #[.int .u64 1, .int .u64 10, .int .u64 2, .int .u64 20, .int .u64 3, .int .u64 30] 47)) := (Below.refl _ _).alloc (Nat.le_refl _) _
  have hb1 := below_on hb0 hb
  have p1 : Hid (Reads (w.alloc (.cells #[.int .u64 1, .int .u64 10, .int .u64 2, .int .u64 20, .int .u64 3, .int .u64 30] 47)) (w.alloc (.cells #[.int .u64 1, .int .u64 10, .int .u64 2, .int .u64 20, .int .u64 3, .int .u64 30] 47)).heap.size 2 (some ⟨w.heap.size, 0, none⟩) 3 (prs ([⟨1, 10⟩, ⟨2, 20⟩, ⟨3, 30⟩] : List Pr))) := reads_at w 47 (prs ([⟨1, 10⟩, ⟨2, 20⟩, ⟨3, 30⟩] : List Pr)) 3 _ (by simp) rfl
  clear hb0 hb
  refine (move_any ([⟨1, 10⟩, ⟨2, 20⟩, ⟨3, 30⟩] : List Pr) (some ⟨w.heap.size, 0, none⟩) 3 3 1 2 1 (w.alloc (.cells #[.int .u64 1, .int .u64 10, .int .u64 2, .int .u64 20, .int .u64 3, .int .u64 30] 47)) p1 (by omega) rfl rfl rfl).mono ?_
  rintro e w2 ⟨Al, cl, hE, ho, hb⟩
  rw [ex_move1] at hE ho
  dsimp only [List.length_cons, List.length_nil] at hE ho
  subst hE
  obtain ⟨zl, kl, kl'⟩ := own_reads ho
  clear ho
  have hb2 := below_on hb1 hb
  have p2 := reads_on p1 hb
  have l2 := zl
  clear hb1 hb p1
  clear zl
  go_wp2_with fail
  have hb : Below w2.heap.size w2 (w2.alloc (.cells #[.int .u64 1, .bool true, .int .u64 10, .bool false, .int .u64 0, .int .u64 2, .bool true, .int .u64 20, .bool true, .int .u64 10, .int .u64 3, .bool true, .int .u64 30, .bool true, .int .u64 20] 37)) := (Below.refl _ _).alloc (Nat.le_refl _) _
  have hb3 := below_on hb2 hb
  have p3 := reads_on p2 hb
  have l3 := reads_on l2 hb
  have want3 : Hid (Reads (w2.alloc (.cells #[.int .u64 1, .bool true, .int .u64 10, .bool false, .int .u64 0, .int .u64 2, .bool true, .int .u64 20, .bool true, .int .u64 10, .int .u64 3, .bool true, .int .u64 30, .bool true, .int .u64 20] 37)) (w2.alloc (.cells #[.int .u64 1, .bool true, .int .u64 10, .bool false, .int .u64 0, .int .u64 2, .bool true, .int .u64 20, .bool true, .int .u64 10, .int .u64 3, .bool true, .int .u64 30, .bool true, .int .u64 20] 37)).heap.size 5 (some ⟨w2.heap.size, 0, none⟩) 3 (chs ([⟨1, true, 10, false, 0⟩, ⟨2, true, 20, true, 10⟩, ⟨3, true, 30, true, 20⟩] : List Chg))) := reads_at w2 37 (chs ([⟨1, true, 10, false, 0⟩, ⟨2, true, 20, true, 10⟩, ⟨3, true, 30, true, 20⟩] : List Chg)) 3 _ (by simp) rfl
  clear hb2 hb p2 l2
  refine (sameC ([⟨1, true, 10, false, 0⟩, ⟨2, true, 20, true, 10⟩, ⟨3, true, 30, true, 20⟩] : List Chg) Al (some ⟨w2.heap.size, 0, none⟩) 3 3 cl 3 (w2.alloc (.cells #[.int .u64 1, .bool true, .int .u64 10, .bool false, .int .u64 0, .int .u64 2, .bool true, .int .u64 20, .bool true, .int .u64 10, .int .u64 3, .bool true, .int .u64 30, .bool true, .int .u64 20] 37)) l3 want3 (by omega)).mono ?_
  rintro e w4 ⟨rfl, hb⟩
  have hb4 := below_on hb3 hb
  have p4 := reads_on p3 hb
  have l4 := reads_on l3 hb
  clear hb3 hb p3 l3 want3
  go_wp2_with fail
  refine (apply_any ([⟨1, 10⟩, ⟨2, 20⟩, ⟨3, 30⟩] : List Pr) ([⟨1, true, 10, false, 0⟩, ⟨2, true, 20, true, 10⟩, ⟨3, true, 30, true, 20⟩] : List Chg) (some ⟨w.heap.size, 0, none⟩) Al 3 3 3 cl w4 p4 l4 (by omega) (by omega) (by omega) (by omega)).mono ?_
  rintro e w5 h
  obtain ⟨⟨Aa, ca, hE, ho⟩, hb⟩ := appOut h
  clear h
  rw [ex_app1] at hE ho
  dsimp only [List.length_cons, List.length_nil] at hE ho
  subst hE
  obtain ⟨za, ka, ka'⟩ := own_reads ho
  clear ho
  have hb5 := below_on hb4 hb
  have p5 := reads_on p4 hb
  have l5 := reads_on l4 hb
  have a5 := za
  clear hb4 hb p4 l4
  clear za
  go_wp2_with fail
  have hb : Below w5.heap.size w5 (w5.alloc (.cells #[.int .u64 1, .int .u64 11, .int .u64 2, .int .u64 20, .int .u64 3, .int .u64 30] 47)) := (Below.refl _ _).alloc (Nat.le_refl _) _
  have hb6 := below_on hb5 hb
  have p6 := reads_on p5 hb
  have l6 := reads_on l5 hb
  have a6 := reads_on a5 hb
  have p26 : Hid (Reads (w5.alloc (.cells #[.int .u64 1, .int .u64 11, .int .u64 2, .int .u64 20, .int .u64 3, .int .u64 30] 47)) (w5.alloc (.cells #[.int .u64 1, .int .u64 11, .int .u64 2, .int .u64 20, .int .u64 3, .int .u64 30] 47)).heap.size 2 (some ⟨w5.heap.size, 0, none⟩) 3 (prs ([⟨1, 11⟩, ⟨2, 20⟩, ⟨3, 30⟩] : List Pr))) := reads_at w5 47 (prs ([⟨1, 11⟩, ⟨2, 20⟩, ⟨3, 30⟩] : List Pr)) 3 _ (by simp) rfl
  clear hb5 hb p5 l5 a5
  refine (apply_any ([⟨1, 11⟩, ⟨2, 20⟩, ⟨3, 30⟩] : List Pr) ([⟨1, true, 10, false, 0⟩, ⟨2, true, 20, true, 10⟩, ⟨3, true, 30, true, 20⟩] : List Chg) (some ⟨w5.heap.size, 0, none⟩) Al 3 3 3 cl (w5.alloc (.cells #[.int .u64 1, .int .u64 11, .int .u64 2, .int .u64 20, .int .u64 3, .int .u64 30] 47)) p26 l6 (by omega) (by omega) (by omega) (by omega)).mono ?_
  rintro e w7 h
  obtain ⟨⟨Ax, cx, hE, ho⟩, hb⟩ := appOut h
  clear h
  rw [ex_app2] at hE ho
  dsimp only [List.length_cons, List.length_nil] at hE ho
  subst hE
  obtain ⟨zx, kx, kx'⟩ := own_reads ho
  clear ho
  have hb7 := below_on hb6 hb
  have p7 := reads_on p6 hb
  have l7 := reads_on l6 hb
  have a7 := reads_on a6 hb
  have p27 := reads_on p26 hb
  clear hb6 hb p6 l6 a6 p26
  clear zx
  go_wp2_with fail
  have hb : Below w7.heap.size w7 (w7.alloc (.cells #[.int .u64 2, .int .u64 10, .int .u64 3, .int .u64 20] 47)) := (Below.refl _ _).alloc (Nat.le_refl _) _
  have hb8 := below_on hb7 hb
  have p8 := reads_on p7 hb
  have l8 := reads_on l7 hb
  have a8 := reads_on a7 hb
  have wa8 : Hid (Reads (w7.alloc (.cells #[.int .u64 2, .int .u64 10, .int .u64 3, .int .u64 20] 47)) (w7.alloc (.cells #[.int .u64 2, .int .u64 10, .int .u64 3, .int .u64 20] 47)).heap.size 2 (some ⟨w7.heap.size, 0, none⟩) 2 (prs ([⟨2, 10⟩, ⟨3, 20⟩] : List Pr))) := reads_at w7 47 (prs ([⟨2, 10⟩, ⟨3, 20⟩] : List Pr)) 2 _ (by simp) rfl
  clear hb7 hb p7 l7 a7
  refine (sameP ([⟨2, 10⟩, ⟨3, 20⟩] : List Pr) Aa (some ⟨w7.heap.size, 0, none⟩) 2 2 ca 2 (w7.alloc (.cells #[.int .u64 2, .int .u64 10, .int .u64 3, .int .u64 20] 47)) a8 wa8 (by omega)).mono ?_
  rintro e w9 ⟨rfl, hb⟩
  have hb9 := below_on hb8 hb
  have p9 := reads_on p8 hb
  have l9 := reads_on l8 hb
  clear hb8 hb p8 l8 a8 wa8
  go_wp2_with fail
  refine (invert_any ([⟨1, true, 10, false, 0⟩, ⟨2, true, 20, true, 10⟩, ⟨3, true, 30, true, 20⟩] : List Chg) Al 3 cl w9 l9 (by omega)).mono ?_
  rintro e w10 h
  obtain ⟨Ai, ci, hE, ho, hb⟩ := invOut h
  clear h
  rw [ex_inv] at hE ho
  dsimp only [List.length_cons, List.length_nil] at hE ho
  subst hE
  obtain ⟨zi, ki, ki'⟩ := own_reads ho
  clear ho
  have hb10 := below_on hb9 hb
  have p10 := reads_on p9 hb
  have l10 := reads_on l9 hb
  have i10 := zi
  clear hb9 hb p9 l9
  clear zi
  go_wp2_with fail
  refine (counts_any ([⟨1, true, 10, false, 0⟩, ⟨2, true, 20, true, 10⟩, ⟨3, true, 30, true, 20⟩] : List Chg) Al 3 cl w10 l10 (by omega)).mono ?_
  rintro e w11 h
  obtain ⟨hE, hb⟩ := countOut h
  clear h
  rw [ex_cnt] at hE
  dsimp only at hE
  subst hE
  have hb11 := below_on hb10 hb
  have p11 := reads_on p10 hb
  have i11 := reads_on i10 hb
  clear hb10 hb p10 l10 i10
  go_wp2_with fail
  have hb : Below w11.heap.size w11 (w11.alloc (.cells #[.int .u64 1, .bool false, .int .u64 0, .bool true, .int .u64 10, .int .u64 2, .bool true, .int .u64 10, .bool true, .int .u64 20, .int .u64 3, .bool true, .int .u64 20, .bool true, .int .u64 30] 37)) := (Below.refl _ _).alloc (Nat.le_refl _) _
  have hb12 := below_on hb11 hb
  have p12 := reads_on p11 hb
  have i12 := reads_on i11 hb
  have wi12 : Hid (Reads (w11.alloc (.cells #[.int .u64 1, .bool false, .int .u64 0, .bool true, .int .u64 10, .int .u64 2, .bool true, .int .u64 10, .bool true, .int .u64 20, .int .u64 3, .bool true, .int .u64 20, .bool true, .int .u64 30] 37)) (w11.alloc (.cells #[.int .u64 1, .bool false, .int .u64 0, .bool true, .int .u64 10, .int .u64 2, .bool true, .int .u64 10, .bool true, .int .u64 20, .int .u64 3, .bool true, .int .u64 20, .bool true, .int .u64 30] 37)).heap.size 5 (some ⟨w11.heap.size, 0, none⟩) 3 (chs ([⟨1, false, 0, true, 10⟩, ⟨2, true, 10, true, 20⟩, ⟨3, true, 20, true, 30⟩] : List Chg))) := reads_at w11 37 (chs ([⟨1, false, 0, true, 10⟩, ⟨2, true, 10, true, 20⟩, ⟨3, true, 20, true, 30⟩] : List Chg)) 3 _ (by simp) rfl
  clear hb11 hb p11 i11
  refine (sameC ([⟨1, false, 0, true, 10⟩, ⟨2, true, 10, true, 20⟩, ⟨3, true, 20, true, 30⟩] : List Chg) Ai (some ⟨w11.heap.size, 0, none⟩) 3 3 ci 3 (w11.alloc (.cells #[.int .u64 1, .bool false, .int .u64 0, .bool true, .int .u64 10, .int .u64 2, .bool true, .int .u64 10, .bool true, .int .u64 20, .int .u64 3, .bool true, .int .u64 20, .bool true, .int .u64 30] 37)) i12 wi12 (by omega)).mono ?_
  rintro e w13 ⟨rfl, hb⟩
  have hb13 := below_on hb12 hb
  have p13 := reads_on p12 hb
  clear hb12 hb p12 i12 wi12
  go_wp2_with fail
  have hb : Below w13.heap.size w13 (w13.alloc (.cells #[.int .u64 1, .int .u64 10, .int .u64 7, .int .u64 70] 47)) := (Below.refl _ _).alloc (Nat.le_refl _) _
  have hb14 := below_on hb13 hb
  have p14 := reads_on p13 hb
  have q14 : Hid (Reads (w13.alloc (.cells #[.int .u64 1, .int .u64 10, .int .u64 7, .int .u64 70] 47)) (w13.alloc (.cells #[.int .u64 1, .int .u64 10, .int .u64 7, .int .u64 70] 47)).heap.size 2 (some ⟨w13.heap.size, 0, none⟩) 2 (prs ([⟨1, 10⟩, ⟨7, 70⟩] : List Pr))) := reads_at w13 47 (prs ([⟨1, 10⟩, ⟨7, 70⟩] : List Pr)) 2 _ (by simp) rfl
  clear hb13 hb p13
  refine (move_any ([⟨1, 10⟩, ⟨7, 70⟩] : List Pr) (some ⟨w13.heap.size, 0, none⟩) 2 2 1 1 2 (w13.alloc (.cells #[.int .u64 1, .int .u64 10, .int .u64 7, .int .u64 70] 47)) q14 (by omega) rfl rfl rfl).mono ?_
  rintro e w15 ⟨Am, cm, hE, ho, hb⟩
  rw [ex_move2] at hE ho
  dsimp only [List.length_cons, List.length_nil] at hE ho
  subst hE
  obtain ⟨zm, km, km'⟩ := own_reads ho
  clear ho
  have hb15 := below_on hb14 hb
  have p15 := reads_on p14 hb
  have q15 := reads_on q14 hb
  have m15 := zm
  clear hb14 hb p14 q14
  clear zm
  go_wp2_with fail
  refine (move_any ([⟨1, 10⟩, ⟨2, 20⟩, ⟨3, 30⟩] : List Pr) (some ⟨w.heap.size, 0, none⟩) 3 3 5 6 1 w15 p15 (by omega) rfl rfl rfl).mono ?_
  rintro e w16 ⟨An, cn, hE, ho, hb⟩
  rw [ex_move3] at hE ho
  dsimp only [List.length_cons, List.length_nil] at hE ho
  subst hE
  obtain ⟨zn, kn, kn'⟩ := own_reads ho
  clear ho
  have hb16 := below_on hb15 hb
  have p16 := reads_on p15 hb
  have m16 := reads_on m15 hb
  have n16 := zn
  clear hb15 hb p15 m15
  clear zn
  go_wp2_with fail
  have hb : Below w16.heap.size w16 (w16.alloc (.cells #[.int .u64 1, .int .u64 10, .int .u64 2, .int .u64 20, .int .u64 9, .int .u64 90] 47)) := (Below.refl _ _).alloc (Nat.le_refl _) _
  have hb17 := below_on hb16 hb
  have p17 := reads_on p16 hb
  have m17 := reads_on m16 hb
  have n17 := reads_on n16 hb
  have r17 : Hid (Reads (w16.alloc (.cells #[.int .u64 1, .int .u64 10, .int .u64 2, .int .u64 20, .int .u64 9, .int .u64 90] 47)) (w16.alloc (.cells #[.int .u64 1, .int .u64 10, .int .u64 2, .int .u64 20, .int .u64 9, .int .u64 90] 47)).heap.size 2 (some ⟨w16.heap.size, 0, none⟩) 3 (prs ([⟨1, 10⟩, ⟨2, 20⟩, ⟨9, 90⟩] : List Pr))) := reads_at w16 47 (prs ([⟨1, 10⟩, ⟨2, 20⟩, ⟨9, 90⟩] : List Pr)) 3 _ (by simp) rfl
  clear hb16 hb p16 m16 n16
  refine (delete_any ([⟨1, 10⟩, ⟨2, 20⟩, ⟨9, 90⟩] : List Pr) (some ⟨w16.heap.size, 0, none⟩) 3 3 2 9 (w16.alloc (.cells #[.int .u64 1, .int .u64 10, .int .u64 2, .int .u64 20, .int .u64 9, .int .u64 90] 47)) r17 (by omega)).mono ?_
  rintro e w18 h
  obtain ⟨Ad, cd, hE, ho, hb⟩ := delOut h
  clear h
  rw [ex_del] at hE ho
  dsimp only [List.length_cons, List.length_nil] at hE ho
  subst hE
  obtain ⟨zd, kd, kd'⟩ := own_reads ho
  clear ho
  have hb18 := below_on hb17 hb
  have p18 := reads_on p17 hb
  have m18 := reads_on m17 hb
  have n18 := reads_on n17 hb
  have d18 := zd
  clear hb17 hb p17 m17 n17 r17
  clear zd
  go_wp2_with fail
  have hb : Below w18.heap.size w18 (w18.alloc (.cells #[.int .u64 1, .bool true, .int .u64 10, .bool false, .int .u64 0, .int .u64 3, .bool false, .int .u64 0, .bool true, .int .u64 10] 37)) := (Below.refl _ _).alloc (Nat.le_refl _) _
  have hb19 := below_on hb18 hb
  have p19 := reads_on p18 hb
  have m19 := reads_on m18 hb
  have n19 := reads_on n18 hb
  have d19 := reads_on d18 hb
  have wm19 : Hid (Reads (w18.alloc (.cells #[.int .u64 1, .bool true, .int .u64 10, .bool false, .int .u64 0, .int .u64 3, .bool false, .int .u64 0, .bool true, .int .u64 10] 37)) (w18.alloc (.cells #[.int .u64 1, .bool true, .int .u64 10, .bool false, .int .u64 0, .int .u64 3, .bool false, .int .u64 0, .bool true, .int .u64 10] 37)).heap.size 5 (some ⟨w18.heap.size, 0, none⟩) 2 (chs ([⟨1, true, 10, false, 0⟩, ⟨3, false, 0, true, 10⟩] : List Chg))) := reads_at w18 37 (chs ([⟨1, true, 10, false, 0⟩, ⟨3, false, 0, true, 10⟩] : List Chg)) 2 _ (by simp) rfl
  clear hb18 hb p18 m18 n18 d18
  refine (sameC ([⟨1, true, 10, false, 0⟩, ⟨3, false, 0, true, 10⟩] : List Chg) Am (some ⟨w18.heap.size, 0, none⟩) 2 2 cm 2 (w18.alloc (.cells #[.int .u64 1, .bool true, .int .u64 10, .bool false, .int .u64 0, .int .u64 3, .bool false, .int .u64 0, .bool true, .int .u64 10] 37)) m19 wm19 (by omega)).mono ?_
  rintro e w20 ⟨rfl, hb⟩
  have hb20 := below_on hb19 hb
  have p20 := reads_on p19 hb
  have m20 := reads_on m19 hb
  have d20 := reads_on d19 hb
  clear hb19 hb p19 m19 n19 d19 wm19
  go_wp2_with fail
  have hb : Below w20.heap.size w20 (w20.alloc (.cells #[.int .u64 2, .bool true, .int .u64 20, .bool false, .int .u64 0, .int .u64 9, .bool true, .int .u64 90, .bool false, .int .u64 0] 37)) := (Below.refl _ _).alloc (Nat.le_refl _) _
  have hb21 := below_on hb20 hb
  have p21 := reads_on p20 hb
  have m21 := reads_on m20 hb
  have d21 := reads_on d20 hb
  have wd21 : Hid (Reads (w20.alloc (.cells #[.int .u64 2, .bool true, .int .u64 20, .bool false, .int .u64 0, .int .u64 9, .bool true, .int .u64 90, .bool false, .int .u64 0] 37)) (w20.alloc (.cells #[.int .u64 2, .bool true, .int .u64 20, .bool false, .int .u64 0, .int .u64 9, .bool true, .int .u64 90, .bool false, .int .u64 0] 37)).heap.size 5 (some ⟨w20.heap.size, 0, none⟩) 2 (chs ([⟨2, true, 20, false, 0⟩, ⟨9, true, 90, false, 0⟩] : List Chg))) := reads_at w20 37 (chs ([⟨2, true, 20, false, 0⟩, ⟨9, true, 90, false, 0⟩] : List Chg)) 2 _ (by simp) rfl
  clear hb20 hb p20 m20 d20
  refine (sameC ([⟨2, true, 20, false, 0⟩, ⟨9, true, 90, false, 0⟩] : List Chg) Ad (some ⟨w20.heap.size, 0, none⟩) 2 2 cd 2 (w20.alloc (.cells #[.int .u64 2, .bool true, .int .u64 20, .bool false, .int .u64 0, .int .u64 9, .bool true, .int .u64 90, .bool false, .int .u64 0] 37)) d21 wd21 (by omega)).mono ?_
  rintro e w22 ⟨rfl, hb⟩
  have hb22 := below_on hb21 hb
  have p22 := reads_on p21 hb
  have m22 := reads_on m21 hb
  clear hb21 hb p21 m21 d21 wd21
  go_wp2_with fail
  refine (move_any ([⟨1, 10⟩, ⟨2, 20⟩, ⟨3, 30⟩] : List Pr) (some ⟨w.heap.size, 0, none⟩) 3 3 1 1 0 w22 p22 (by omega) rfl rfl rfl).mono ?_
  rintro e w23 ⟨Af, cf, hE, ho, hb⟩
  rw [ex_move4] at hE ho
  dsimp only [List.length_cons, List.length_nil] at hE ho
  subst hE
  obtain ⟨zf, kf, kf'⟩ := own_reads ho
  clear ho
  have hb23 := below_on hb22 hb
  have p23 := reads_on p22 hb
  have m23 := reads_on m22 hb
  clear hb22 hb p22 m22
  clear zf
  go_wp2_with fail
  have hb : Below w23.heap.size w23 (w23.alloc (.cells #[.int .u64 2, .int .u64 0, .int .u64 1, .int .u64 0] 47)) := (Below.refl _ _).alloc (Nat.le_refl _) _
  have hb24 := below_on hb23 hb
  have p24 := reads_on p23 hb
  have m24 := reads_on m23 hb
  have nn24 : Hid (Reads (w23.alloc (.cells #[.int .u64 2, .int .u64 0, .int .u64 1, .int .u64 0] 47)) (w23.alloc (.cells #[.int .u64 2, .int .u64 0, .int .u64 1, .int .u64 0] 47)).heap.size 2 (some ⟨w23.heap.size, 0, none⟩) 2 (prs ([⟨2, 0⟩, ⟨1, 0⟩] : List Pr))) := reads_at w23 47 (prs ([⟨2, 0⟩, ⟨1, 0⟩] : List Pr)) 2 _ (by simp) rfl
  clear hb23 hb p23 m23
  refine (move_any ([⟨2, 0⟩, ⟨1, 0⟩] : List Pr) (some ⟨w23.heap.size, 0, none⟩) 2 2 2 1 1 (w23.alloc (.cells #[.int .u64 2, .int .u64 0, .int .u64 1, .int .u64 0] 47)) nn24 (by omega) rfl rfl rfl).mono ?_
  rintro e w25 ⟨Ag, cg, hE, ho, hb⟩
  rw [ex_move5] at hE ho
  dsimp only [List.length_cons, List.length_nil] at hE ho
  subst hE
  obtain ⟨zg, kg, kg'⟩ := own_reads ho
  clear ho
  have hb25 := below_on hb24 hb
  have p25 := reads_on p24 hb
  have m25 := reads_on m24 hb
  have nn25 := reads_on nn24 hb
  clear hb24 hb p24 m24 nn24
  clear zg
  go_wp2_with fail
  refine (move_any ([⟨1, 10⟩, ⟨2, 20⟩, ⟨3, 30⟩] : List Pr) (some ⟨w.heap.size, 0, none⟩) 3 3 1 9 18446744073709551607 w25 p25 (by omega) rfl rfl rfl).mono ?_
  rintro e w26 ⟨Ao, co, hE, ho, hb⟩
  rw [ex_move6] at hE ho
  dsimp only [List.length_cons, List.length_nil] at hE ho
  subst hE
  obtain ⟨zo, ko, ko'⟩ := own_reads ho
  clear ho
  have hb26 := below_on hb25 hb
  have p26 := reads_on p25 hb
  have m26 := reads_on m25 hb
  clear hb25 hb p25 m25
  clear zo
  go_wp2_with fail
  have hb : Below w26.heap.size w26 (w26.alloc (.cells #[.int .u64 3, .bool true, .int .u64 10, .bool false, .int .u64 0] 37)) := (Below.refl _ _).alloc (Nat.le_refl _) _
  have hb27 := below_on hb26 hb
  have m27 := reads_on m26 hb
  have t127 : Hid (Reads (w26.alloc (.cells #[.int .u64 3, .bool true, .int .u64 10, .bool false, .int .u64 0] 37)) (w26.alloc (.cells #[.int .u64 3, .bool true, .int .u64 10, .bool false, .int .u64 0] 37)).heap.size 5 (some ⟨w26.heap.size, 0, none⟩) 1 (chs ([⟨3, true, 10, false, 0⟩] : List Chg))) := reads_at w26 37 (chs ([⟨3, true, 10, false, 0⟩] : List Chg)) 1 _ (by simp) rfl
  clear hb26 hb m26
  refine (then_any ([⟨1, true, 10, false, 0⟩, ⟨3, false, 0, true, 10⟩] : List Chg) ([⟨3, true, 10, false, 0⟩] : List Chg) Am (some ⟨w26.heap.size, 0, none⟩) 2 1 cm 1 (w26.alloc (.cells #[.int .u64 3, .bool true, .int .u64 10, .bool false, .int .u64 0] 37)) m27 t127 (by omega) (by omega) (by omega) (by omega)).mono ?_
  rintro e w28 h
  obtain ⟨⟨At, ct, hE, ho⟩, hb⟩ := thenOut h
  clear h
  rw [ex_then1] at hE ho
  dsimp only [List.length_cons, List.length_nil] at hE ho
  subst hE
  obtain ⟨zt, kt, kt'⟩ := own_reads ho
  clear ho
  have hb28 := below_on hb27 hb
  have m28 := reads_on m27 hb
  have t128 := reads_on t127 hb
  have t28 := zt
  clear hb27 hb m27 t127
  clear zt
  go_wp2_with fail
  have hb : Below w28.heap.size w28 (w28.alloc (.cells #[.int .u64 1, .bool true, .int .u64 10, .bool true, .int .u64 11] 37)) := (Below.refl _ _).alloc (Nat.le_refl _) _
  have hb29 := below_on hb28 hb
  have t29 := reads_on t28 hb
  have s129 : Hid (Reads (w28.alloc (.cells #[.int .u64 1, .bool true, .int .u64 10, .bool true, .int .u64 11] 37)) (w28.alloc (.cells #[.int .u64 1, .bool true, .int .u64 10, .bool true, .int .u64 11] 37)).heap.size 5 (some ⟨w28.heap.size, 0, none⟩) 1 (chs ([⟨1, true, 10, true, 11⟩] : List Chg))) := reads_at w28 37 (chs ([⟨1, true, 10, true, 11⟩] : List Chg)) 1 _ (by simp) rfl
  clear hb28 hb t28
  have hb : Below (w28.alloc (.cells #[.int .u64 1, .bool true, .int .u64 10, .bool true, .int .u64 11] 37)).heap.size (w28.alloc (.cells #[.int .u64 1, .bool true, .int .u64 10, .bool true, .int .u64 11] 37)) ((w28.alloc (.cells #[.int .u64 1, .bool true, .int .u64 10, .bool true, .int .u64 11] 37)).alloc (.cells #[.int .u64 1, .bool true, .int .u64 10, .bool true, .int .u64 12] 37)) := (Below.refl _ _).alloc (Nat.le_refl _) _
  have hb30 := below_on hb29 hb
  have t30 := reads_on t29 hb
  have s130 := reads_on s129 hb
  have s230 : Hid (Reads ((w28.alloc (.cells #[.int .u64 1, .bool true, .int .u64 10, .bool true, .int .u64 11] 37)).alloc (.cells #[.int .u64 1, .bool true, .int .u64 10, .bool true, .int .u64 12] 37)) ((w28.alloc (.cells #[.int .u64 1, .bool true, .int .u64 10, .bool true, .int .u64 11] 37)).alloc (.cells #[.int .u64 1, .bool true, .int .u64 10, .bool true, .int .u64 12] 37)).heap.size 5 (some ⟨w28.heap.size + 1, 0, none⟩) 1 (chs ([⟨1, true, 10, true, 12⟩] : List Chg))) := reads_at (w28.alloc (.cells #[.int .u64 1, .bool true, .int .u64 10, .bool true, .int .u64 11] 37)) 37 (chs ([⟨1, true, 10, true, 12⟩] : List Chg)) 1 _ (by simp) rfl
  clear hb29 hb t29 s129
  refine (then_any ([⟨1, true, 10, true, 11⟩] : List Chg) ([⟨1, true, 10, true, 12⟩] : List Chg) (some ⟨w28.heap.size, 0, none⟩) (some ⟨w28.heap.size + 1, 0, none⟩) 1 1 1 1 ((w28.alloc (.cells #[.int .u64 1, .bool true, .int .u64 10, .bool true, .int .u64 11] 37)).alloc (.cells #[.int .u64 1, .bool true, .int .u64 10, .bool true, .int .u64 12] 37)) s130 s230 (by omega) (by omega) (by omega) (by omega)).mono ?_
  rintro e w31 h
  obtain ⟨⟨Av, cv, hE, ho⟩, hb⟩ := thenOut h
  clear h
  rw [ex_then2] at hE ho
  dsimp only [List.length_cons, List.length_nil] at hE ho
  subst hE
  obtain ⟨zv, kv, kv'⟩ := own_reads ho
  clear ho
  have hb31 := below_on hb30 hb
  have t31 := reads_on t30 hb
  have s131 := reads_on s130 hb
  have s231 := reads_on s230 hb
  have v31 := zv
  clear hb30 hb t30 s130 s230
  clear zv
  go_wp2_with fail
  have hb : Below w31.heap.size w31 (w31.alloc (.cells #[.int .u64 1, .bool false, .int .u64 0, .bool true, .int .u64 5] 37)) := (Below.refl _ _).alloc (Nat.le_refl _) _
  have hb32 := below_on hb31 hb
  have t32 := reads_on t31 hb
  have u132 : Hid (Reads (w31.alloc (.cells #[.int .u64 1, .bool false, .int .u64 0, .bool true, .int .u64 5] 37)) (w31.alloc (.cells #[.int .u64 1, .bool false, .int .u64 0, .bool true, .int .u64 5] 37)).heap.size 5 (some ⟨w31.heap.size, 0, none⟩) 1 (chs ([⟨1, false, 0, true, 5⟩] : List Chg))) := reads_at w31 37 (chs ([⟨1, false, 0, true, 5⟩] : List Chg)) 1 _ (by simp) rfl
  clear hb31 hb t31
  have hb : Below (w31.alloc (.cells #[.int .u64 1, .bool false, .int .u64 0, .bool true, .int .u64 5] 37)).heap.size (w31.alloc (.cells #[.int .u64 1, .bool false, .int .u64 0, .bool true, .int .u64 5] 37)) ((w31.alloc (.cells #[.int .u64 1, .bool false, .int .u64 0, .bool true, .int .u64 5] 37)).alloc (.cells #[.int .u64 1, .bool true, .int .u64 5, .bool false, .int .u64 0] 37)) := (Below.refl _ _).alloc (Nat.le_refl _) _
  have hb33 := below_on hb32 hb
  have t33 := reads_on t32 hb
  have u133 := reads_on u132 hb
  have u233 : Hid (Reads ((w31.alloc (.cells #[.int .u64 1, .bool false, .int .u64 0, .bool true, .int .u64 5] 37)).alloc (.cells #[.int .u64 1, .bool true, .int .u64 5, .bool false, .int .u64 0] 37)) ((w31.alloc (.cells #[.int .u64 1, .bool false, .int .u64 0, .bool true, .int .u64 5] 37)).alloc (.cells #[.int .u64 1, .bool true, .int .u64 5, .bool false, .int .u64 0] 37)).heap.size 5 (some ⟨w31.heap.size + 1, 0, none⟩) 1 (chs ([⟨1, true, 5, false, 0⟩] : List Chg))) := reads_at (w31.alloc (.cells #[.int .u64 1, .bool false, .int .u64 0, .bool true, .int .u64 5] 37)) 37 (chs ([⟨1, true, 5, false, 0⟩] : List Chg)) 1 _ (by simp) rfl
  clear hb32 hb t32 u132
  refine (then_any ([⟨1, false, 0, true, 5⟩] : List Chg) ([⟨1, true, 5, false, 0⟩] : List Chg) (some ⟨w31.heap.size, 0, none⟩) (some ⟨w31.heap.size + 1, 0, none⟩) 1 1 1 1 ((w31.alloc (.cells #[.int .u64 1, .bool false, .int .u64 0, .bool true, .int .u64 5] 37)).alloc (.cells #[.int .u64 1, .bool true, .int .u64 5, .bool false, .int .u64 0] 37)) u133 u233 (by omega) (by omega) (by omega) (by omega)).mono ?_
  rintro e w34 h
  obtain ⟨⟨Au, cu, hE, ho⟩, hb⟩ := thenOut h
  clear h
  rw [ex_then3] at hE ho
  dsimp only [List.length_cons, List.length_nil] at hE ho
  subst hE
  obtain ⟨zu, ku, ku'⟩ := own_reads ho
  clear ho
  have hb34 := below_on hb33 hb
  have t34 := reads_on t33 hb
  have u134 := reads_on u133 hb
  have u234 := reads_on u233 hb
  have u34 := zu
  clear hb33 hb t33 u133 u233
  clear zu
  go_wp2_with fail
  have hb : Below w34.heap.size w34 (w34.alloc (.cells #[.int .u64 1, .bool true, .int .u64 10, .bool false, .int .u64 0] 37)) := (Below.refl _ _).alloc (Nat.le_refl _) _
  have hb35 := below_on hb34 hb
  have t35 := reads_on t34 hb
  have wt35 : Hid (Reads (w34.alloc (.cells #[.int .u64 1, .bool true, .int .u64 10, .bool false, .int .u64 0] 37)) (w34.alloc (.cells #[.int .u64 1, .bool true, .int .u64 10, .bool false, .int .u64 0] 37)).heap.size 5 (some ⟨w34.heap.size, 0, none⟩) 1 (chs ([⟨1, true, 10, false, 0⟩] : List Chg))) := reads_at w34 37 (chs ([⟨1, true, 10, false, 0⟩] : List Chg)) 1 _ (by simp) rfl
  clear hb34 hb t34
  refine (sameC ([⟨1, true, 10, false, 0⟩] : List Chg) At (some ⟨w34.heap.size, 0, none⟩) 1 1 ct 1 (w34.alloc (.cells #[.int .u64 1, .bool true, .int .u64 10, .bool false, .int .u64 0] 37)) t35 wt35 (by omega)).mono ?_
  rintro e w36 ⟨rfl, hb⟩
  have hb36 := below_on hb35 hb
  clear hb35 hb t35 wt35
  go_wp2_with fail
  have hb : Below w36.heap.size w36 (w36.alloc (.cells #[.int .u64 1, .bool false, .int .u64 0, .bool false, .int .u64 0] 37)) := (Below.refl _ _).alloc (Nat.le_refl _) _
  have hb37 := below_on hb36 hb
  have k137 : Hid (Reads (w36.alloc (.cells #[.int .u64 1, .bool false, .int .u64 0, .bool false, .int .u64 0] 37)) (w36.alloc (.cells #[.int .u64 1, .bool false, .int .u64 0, .bool false, .int .u64 0] 37)).heap.size 5 (some ⟨w36.heap.size, 0, none⟩) 1 (chs ([⟨1, false, 0, false, 0⟩] : List Chg))) := reads_at w36 37 (chs ([⟨1, false, 0, false, 0⟩] : List Chg)) 1 _ (by simp) rfl
  clear hb36 hb
  refine (check_any ([⟨1, false, 0, false, 0⟩] : List Chg) (some ⟨w36.heap.size, 0, none⟩) 1 1 (w36.alloc (.cells #[.int .u64 1, .bool false, .int .u64 0, .bool false, .int .u64 0] 37)) k137 (by omega)).mono ?_
  rintro e w38 h
  obtain ⟨hE, hb⟩ := checkOut h
  clear h
  rw [ex_chk1] at hE
  subst hE
  have hb38 := below_on hb37 hb
  clear hb37 hb k137
  go_wp2_with fail
  have hb : Below w38.heap.size w38 (w38.alloc (.cells #[.int .u64 2, .bool true, .int .u64 1, .bool false, .int .u64 0, .int .u64 2, .bool false, .int .u64 0, .bool true, .int .u64 1] 37)) := (Below.refl _ _).alloc (Nat.le_refl _) _
  have hb39 := below_on hb38 hb
  have k239 : Hid (Reads (w38.alloc (.cells #[.int .u64 2, .bool true, .int .u64 1, .bool false, .int .u64 0, .int .u64 2, .bool false, .int .u64 0, .bool true, .int .u64 1] 37)) (w38.alloc (.cells #[.int .u64 2, .bool true, .int .u64 1, .bool false, .int .u64 0, .int .u64 2, .bool false, .int .u64 0, .bool true, .int .u64 1] 37)).heap.size 5 (some ⟨w38.heap.size, 0, none⟩) 2 (chs ([⟨2, true, 1, false, 0⟩, ⟨2, false, 0, true, 1⟩] : List Chg))) := reads_at w38 37 (chs ([⟨2, true, 1, false, 0⟩, ⟨2, false, 0, true, 1⟩] : List Chg)) 2 _ (by simp) rfl
  clear hb38 hb
  refine (check_any ([⟨2, true, 1, false, 0⟩, ⟨2, false, 0, true, 1⟩] : List Chg) (some ⟨w38.heap.size, 0, none⟩) 2 2 (w38.alloc (.cells #[.int .u64 2, .bool true, .int .u64 1, .bool false, .int .u64 0, .int .u64 2, .bool false, .int .u64 0, .bool true, .int .u64 1] 37)) k239 (by omega)).mono ?_
  rintro e w40 h
  obtain ⟨hE, hb⟩ := checkOut h
  clear h
  rw [ex_chk2] at hE
  subst hE
  have hb40 := below_on hb39 hb
  clear hb39 hb k239
  go_wp2_with fail
  have hb : Below w40.heap.size w40 (w40.alloc (.cells #[.int .u64 2, .bool false, .int .u64 1, .bool true, .int .u64 0] 37)) := (Below.refl _ _).alloc (Nat.le_refl _) _
  have hb41 := below_on hb40 hb
  have k341 : Hid (Reads (w40.alloc (.cells #[.int .u64 2, .bool false, .int .u64 1, .bool true, .int .u64 0] 37)) (w40.alloc (.cells #[.int .u64 2, .bool false, .int .u64 1, .bool true, .int .u64 0] 37)).heap.size 5 (some ⟨w40.heap.size, 0, none⟩) 1 (chs ([⟨2, false, 1, true, 0⟩] : List Chg))) := reads_at w40 37 (chs ([⟨2, false, 1, true, 0⟩] : List Chg)) 1 _ (by simp) rfl
  clear hb40 hb
  refine (check_any ([⟨2, false, 1, true, 0⟩] : List Chg) (some ⟨w40.heap.size, 0, none⟩) 1 1 (w40.alloc (.cells #[.int .u64 2, .bool false, .int .u64 1, .bool true, .int .u64 0] 37)) k341 (by omega)).mono ?_
  rintro e w42 h
  obtain ⟨hE, hb⟩ := checkOut h
  clear h
  rw [ex_chk3] at hE
  subst hE
  have hb42 := below_on hb41 hb
  clear hb41 hb k341
  go_wp2_with fail
  refine (check_any [] none 0 0 w42 Reads.none_ (by omega)).mono ?_
  rintro e w43 h
  obtain ⟨hE, hb⟩ := checkOut h
  clear h
  rw [ex_chk4] at hE
  subst hE
  have hb43 := below_on hb42 hb
  clear hb42 hb
  go_wp2_with fail
  go_ret
  exact ⟨by simp, hb43.out⟩
end Go.Proofs.Ytlaocajjenfgpaa
