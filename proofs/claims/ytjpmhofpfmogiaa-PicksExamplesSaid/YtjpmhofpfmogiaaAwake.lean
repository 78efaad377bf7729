/- The fixed example of chapter 10, walked (printed by gen_awake.py). -/
import Derived.Test.YtjpmhofpfmogiaaRes
namespace Go.Proofs.Ytjpmhofpfmogiaa
open Go Go.RowKit
set_option linter.unusedVariables false

/-- What a slice of one's own holds, as a list that is read. -/
theorem own_reads {w : World} {base e size n c : Nat} {A : Option Addr} {xs : List Value} (h : w.ownsRow base e size (.slice A n c) n xs) : Hid (Reads w w.heap.size size A n xs) ∧ n ≤ c ∧ c ≤ 9223372036854775807 := by
  obtain ⟨A', c', he, h1, h2⟩ := own_form h
  injection he with _ _ e3
  subst e3
  unfold maxLen at h2
  exact ⟨Reads.of_own h, h1, h2⟩
/-- What was read before is read behind. -/
theorem reads_on {w w' : World} {size n : Nat} {A : Option Addr} {xs : List Value} (h : Hid (Reads w w.heap.size size A n xs)) (hb : Below w.heap.size w w') : Hid (Reads w' w'.heap.size size A n xs) := (h.out.below hb).more hb.size
theorem below_on {w w1 w2 : World} (h : Hid (Below w.heap.size w w1)) (hb : Below w1.heap.size w1 w2) : Hid (Below w.heap.size w w2) := h.out.trans (hb.mono h.out.size)
theorem thread_at (t p a er : Int) (h1 : (if vld t then p % t else 0) = a) (h2 : (if vld t then 0 else 2) = er) (w : World) :
    Calls Try.prog 21 #[.int .i64 t, .int .i64 p] w fun e w' => e = .returned (.tuple #[.int .i64 a, .int .i64 er]) ∧ w = w' := by
  subst h1
  subst h2
  exact thread_any t p w

theorem aw_ch : chL 2 ([0, 3, -1, 4] : List Int) = ([0, 1, 1, 0] : List Int) := by decide
theorem aw_chk : chk 2 0 ((4 : Nat) : Int) = 0 := by decide
theorem aw_cn : cnL 3 ([0, 3, -1, 4] : List Int) = ([2, 1, 1] : List Int) := by decide
theorem aw_cnk : chk 3 0 ((4 : Nat) : Int) = 0 := by decide
theorem aw_ga : gaN 2 0 ([1, 1, 0, 1] : List Int) = 2 := by decide
theorem aw_gak : chk 2 0 ((4 : Nat) : Int) = 0 := by decide
theorem aw_wo : woL 2 1 ([0, 3, -1, 4] : List Int) = ([0, 4] : List Int) := by decide
theorem aw_wok : chk 2 1 ((4 : Nat) : Int) = 0 := by decide
theorem aw_rn : rnL 3 5 = ([0, 1, 2, 0, 1] : List Int) := by decide
theorem aw_rnk : siz 3 5 = 0 := by decide
theorem aw_ex : exL ([4, 2, 0, 1] : List Int) = ([4, 4, 0] : List Int) := by decide
theorem aw_exk : exErr ([4, 2, 0, 1] : List Int) = 0 := by decide
theorem aw_ey : exL ([4] : List Int) = [] := by decide
theorem aw_eyk : exErr ([4] : List Int) = 2 := by decide

set_option maxRecDepth 100000 in
set_option maxHeartbeats 4000000 in
theorem awake_any (w : World) : Calls Try.prog 23 #[] w fun e w' => e = .returned (.bool true) ∧ Below w.heap.size w w' := by
  go_enter Try.func23, Try.ntmps23
  have hb0 : Hid (Below w.heap.size w w) := Below.refl _ _
  go_wp2_with fail
  refine (thread_at 3 (-1) 2 0 (by decide) (by decide) _).mono ?_
  rintro e w' ⟨rfl, rfl⟩
  go_wp2_with fail
  refine (thread_at 3 7 1 0 (by decide) (by decide) _).mono ?_
  rintro e w' ⟨rfl, rfl⟩
  go_wp2_with fail
  refine (thread_at 0 0 0 2 (by decide) (by decide) _).mono ?_
  rintro e w' ⟨rfl, rfl⟩
  go_wp2_with fail
  have hb : Below w.heap.size w (w.alloc (.cells #[.int .i64 0, .int .i64 3, .int .i64 (-1), .int .i64 4] 3)) := (Below.refl _ _).alloc (Nat.le_refl _) _
  have hb1 := below_on hb0 hb
  have x1 : Hid (Reads (w.alloc (.cells #[.int .i64 0, .int .i64 3, .int .i64 (-1), .int .i64 4] 3)) (w.alloc (.cells #[.int .i64 0, .int .i64 3, .int .i64 (-1), .int .i64 4] 3)).heap.size 1 (some ⟨w.heap.size, 0, none⟩) 4 (ints ([0, 3, -1, 4] : List Int))) := reads_at w 3 (ints ([0, 3, -1, 4] : List Int)) 4 _ (by simp) rfl
  clear hb0 hb
  refine (chosen_res 2 ([0, 3, -1, 4] : List Int) (some ⟨w.heap.size, 0, none⟩) 4 4 (w.alloc (.cells #[.int .i64 0, .int .i64 3, .int .i64 (-1), .int .i64 4] 3)) x1).mono ?_
  rintro e w2 ⟨Ac, cc, hE, ho, hb⟩
  rw [aw_ch, aw_chk] at hE
  rw [aw_ch] at ho
  dsimp only [List.length_cons, List.length_nil] at hE ho
  subst hE
  obtain ⟨zc, kc, kc'⟩ := own_reads ho
  clear ho
  have hb2 := below_on hb1 hb
  have c2 := zc
  clear hb1 hb x1
  clear zc
  go_wp2_with fail
  have hb : Below w2.heap.size w2 (w2.alloc (.cells #[.int .i64 0, .int .i64 3, .int .i64 (-1), .int .i64 4] 3)) := (Below.refl _ _).alloc (Nat.le_refl _) _
  have hb3 := below_on hb2 hb
  have c3 := reads_on c2 hb
  have x3 : Hid (Reads (w2.alloc (.cells #[.int .i64 0, .int .i64 3, .int .i64 (-1), .int .i64 4] 3)) (w2.alloc (.cells #[.int .i64 0, .int .i64 3, .int .i64 (-1), .int .i64 4] 3)).heap.size 1 (some ⟨w2.heap.size, 0, none⟩) 4 (ints ([0, 3, -1, 4] : List Int))) := reads_at w2 3 (ints ([0, 3, -1, 4] : List Int)) 4 _ (by simp) rfl
  clear hb2 hb c2
  refine (counts_res 3 ([0, 3, -1, 4] : List Int) (some ⟨w2.heap.size, 0, none⟩) 4 4 (w2.alloc (.cells #[.int .i64 0, .int .i64 3, .int .i64 (-1), .int .i64 4] 3)) x3).mono ?_
  rintro e w4 ⟨Ad, cd, hE, ho, hb⟩
  rw [aw_cn, aw_cnk] at hE
  rw [aw_cn] at ho
  dsimp only [List.length_cons, List.length_nil] at hE ho
  subst hE
  obtain ⟨zd, kd, kd'⟩ := own_reads ho
  clear ho
  have hb4 := below_on hb3 hb
  have c4 := reads_on c3 hb
  have d4 := zd
  clear hb3 hb c3 x3
  clear zd
  go_wp2_with fail
  have hb : Below w4.heap.size w4 (w4.alloc (.cells #[.int .i64 0, .int .i64 1, .int .i64 1, .int .i64 0] 3)) := (Below.refl _ _).alloc (Nat.le_refl _) _
  have hb5 := below_on hb4 hb
  have c5 := reads_on c4 hb
  have d5 := reads_on d4 hb
  have e15 : Hid (Reads (w4.alloc (.cells #[.int .i64 0, .int .i64 1, .int .i64 1, .int .i64 0] 3)) (w4.alloc (.cells #[.int .i64 0, .int .i64 1, .int .i64 1, .int .i64 0] 3)).heap.size 1 (some ⟨w4.heap.size, 0, none⟩) 4 (ints ([0, 1, 1, 0] : List Int))) := reads_at w4 3 (ints ([0, 1, 1, 0] : List Int)) 4 _ (by simp) rfl
  clear hb4 hb c4 d4
  refine (eq_same ([0, 1, 1, 0] : List Int) Ac (some ⟨w4.heap.size, 0, none⟩) 4 4 cc 4 (w4.alloc (.cells #[.int .i64 0, .int .i64 1, .int .i64 1, .int .i64 0] 3)) c5 e15 (by omega)).mono ?_
  rintro e w6 ⟨rfl, hb⟩
  have hb6 := below_on hb5 hb
  have d6 := reads_on d5 hb
  clear hb5 hb c5 d5 e15
  go_wp2_with fail
  have hb : Below w6.heap.size w6 (w6.alloc (.cells #[.int .i64 2, .int .i64 1, .int .i64 1] 3)) := (Below.refl _ _).alloc (Nat.le_refl _) _
  have hb7 := below_on hb6 hb
  have d7 := reads_on d6 hb
  have e27 : Hid (Reads (w6.alloc (.cells #[.int .i64 2, .int .i64 1, .int .i64 1] 3)) (w6.alloc (.cells #[.int .i64 2, .int .i64 1, .int .i64 1] 3)).heap.size 1 (some ⟨w6.heap.size, 0, none⟩) 3 (ints ([2, 1, 1] : List Int))) := reads_at w6 3 (ints ([2, 1, 1] : List Int)) 3 _ (by simp) rfl
  clear hb6 hb d6
  refine (eq_same ([2, 1, 1] : List Int) Ad (some ⟨w6.heap.size, 0, none⟩) 3 3 cd 3 (w6.alloc (.cells #[.int .i64 2, .int .i64 1, .int .i64 1] 3)) d7 e27 (by omega)).mono ?_
  rintro e w8 ⟨rfl, hb⟩
  have hb8 := below_on hb7 hb
  clear hb7 hb d7 e27
  go_wp2_with fail
  have hb : Below w8.heap.size w8 (w8.alloc (.cells #[.int .i64 1, .int .i64 1, .int .i64 0, .int .i64 1] 3)) := (Below.refl _ _).alloc (Nat.le_refl _) _
  have hb9 := below_on hb8 hb
  have x9 : Hid (Reads (w8.alloc (.cells #[.int .i64 1, .int .i64 1, .int .i64 0, .int .i64 1] 3)) (w8.alloc (.cells #[.int .i64 1, .int .i64 1, .int .i64 0, .int .i64 1] 3)).heap.size 1 (some ⟨w8.heap.size, 0, none⟩) 4 (ints ([1, 1, 0, 1] : List Int))) := reads_at w8 3 (ints ([1, 1, 0, 1] : List Int)) 4 _ (by simp) rfl
  clear hb8 hb
  refine (gap_res 2 0 ([1, 1, 0, 1] : List Int) (some ⟨w8.heap.size, 0, none⟩) 4 4 (w8.alloc (.cells #[.int .i64 1, .int .i64 1, .int .i64 0, .int .i64 1] 3)) x9).mono ?_
  rintro e w10 ⟨hE, hb⟩
  rw [aw_ga, aw_gak] at hE
  subst hE
  have hb10 := below_on hb9 hb
  clear hb9 hb x9
  go_wp2_with fail
  have hb : Below w10.heap.size w10 (w10.alloc (.cells #[.int .i64 0, .int .i64 3, .int .i64 (-1), .int .i64 4] 3)) := (Below.refl _ _).alloc (Nat.le_refl _) _
  have hb11 := below_on hb10 hb
  have x11 : Hid (Reads (w10.alloc (.cells #[.int .i64 0, .int .i64 3, .int .i64 (-1), .int .i64 4] 3)) (w10.alloc (.cells #[.int .i64 0, .int .i64 3, .int .i64 (-1), .int .i64 4] 3)).heap.size 1 (some ⟨w10.heap.size, 0, none⟩) 4 (ints ([0, 3, -1, 4] : List Int))) := reads_at w10 3 (ints ([0, 3, -1, 4] : List Int)) 4 _ (by simp) rfl
  clear hb10 hb
  refine (without_res 2 1 ([0, 3, -1, 4] : List Int) (some ⟨w10.heap.size, 0, none⟩) 4 4 (w10.alloc (.cells #[.int .i64 0, .int .i64 3, .int .i64 (-1), .int .i64 4] 3)) x11).mono ?_
  rintro e w12 ⟨Ax1, cx1, hE, ho, hb⟩
  rw [aw_wo, aw_wok] at hE
  rw [aw_wo] at ho
  dsimp only [List.length_cons, List.length_nil] at hE ho
  subst hE
  obtain ⟨zx1, kx1, kx1'⟩ := own_reads ho
  clear ho
  have hb12 := below_on hb11 hb
  have x112 := zx1
  clear hb11 hb x11
  clear zx1
  go_wp2_with fail
  refine (round_res 3 5 w12).mono ?_
  rintro e w13 ⟨Ay, cy, hE, ho, hb⟩
  rw [aw_rn, aw_rnk] at hE
  rw [aw_rn] at ho
  dsimp only [List.length_cons, List.length_nil] at hE ho
  subst hE
  obtain ⟨zy, ky, ky'⟩ := own_reads ho
  clear ho
  have hb13 := below_on hb12 hb
  have x113 := reads_on x112 hb
  have y13 := zy
  clear hb12 hb x112
  clear zy
  go_wp2_with fail
  have hb : Below w13.heap.size w13 (w13.alloc (.cells #[.int .i64 4, .int .i64 2, .int .i64 0, .int .i64 1] 3)) := (Below.refl _ _).alloc (Nat.le_refl _) _
  have hb14 := below_on hb13 hb
  have x114 := reads_on x113 hb
  have y14 := reads_on y13 hb
  have x14 : Hid (Reads (w13.alloc (.cells #[.int .i64 4, .int .i64 2, .int .i64 0, .int .i64 1] 3)) (w13.alloc (.cells #[.int .i64 4, .int .i64 2, .int .i64 0, .int .i64 1] 3)).heap.size 1 (some ⟨w13.heap.size, 0, none⟩) 4 (ints ([4, 2, 0, 1] : List Int))) := reads_at w13 3 (ints ([4, 2, 0, 1] : List Int)) 4 _ (by simp) rfl
  clear hb13 hb x113 y13
  refine (expand_res ([4, 2, 0, 1] : List Int) (some ⟨w13.heap.size, 0, none⟩) 4 4 (w13.alloc (.cells #[.int .i64 4, .int .i64 2, .int .i64 0, .int .i64 1] 3)) x14 (by omega)).mono ?_
  rintro e w15 ⟨Az, cz, hE, ho, hb⟩
  rw [aw_ex, aw_exk] at hE
  rw [aw_ex] at ho
  dsimp only [List.length_cons, List.length_nil] at hE ho
  subst hE
  obtain ⟨zz, kz, kz'⟩ := own_reads ho
  clear ho
  have hb15 := below_on hb14 hb
  have x115 := reads_on x114 hb
  have y15 := reads_on y14 hb
  have z15 := zz
  clear hb14 hb x114 y14 x14
  clear zz
  go_wp2_with fail
  have hb : Below w15.heap.size w15 (w15.alloc (.cells #[.int .i64 4] 3)) := (Below.refl _ _).alloc (Nat.le_refl _) _
  have hb16 := below_on hb15 hb
  have x116 := reads_on x115 hb
  have y16 := reads_on y15 hb
  have z16 := reads_on z15 hb
  have x16 : Hid (Reads (w15.alloc (.cells #[.int .i64 4] 3)) (w15.alloc (.cells #[.int .i64 4] 3)).heap.size 1 (some ⟨w15.heap.size, 0, none⟩) 1 (ints ([4] : List Int))) := reads_at w15 3 (ints ([4] : List Int)) 1 _ (by simp) rfl
  clear hb15 hb x115 y15 z15
  refine (expand_res ([4] : List Int) (some ⟨w15.heap.size, 0, none⟩) 1 1 (w15.alloc (.cells #[.int .i64 4] 3)) x16 (by omega)).mono ?_
  rintro e w17 ⟨Av, cv, hE, ho, hb⟩
  rw [aw_ey, aw_eyk] at hE
  rw [aw_ey] at ho
  dsimp only [List.length_cons, List.length_nil] at hE ho
  subst hE
  obtain ⟨zv, kv, kv'⟩ := own_reads ho
  clear ho
  have hb17 := below_on hb16 hb
  have x117 := reads_on x116 hb
  have y17 := reads_on y16 hb
  have z17 := reads_on z16 hb
  clear hb16 hb x116 y16 z16 x16
  clear zv
  go_wp2_with fail
  have hb : Below w17.heap.size w17 (w17.alloc (.cells #[.int .i64 0, .int .i64 4] 3)) := (Below.refl _ _).alloc (Nat.le_refl _) _
  have hb18 := below_on hb17 hb
  have x118 := reads_on x117 hb
  have y18 := reads_on y17 hb
  have z18 := reads_on z17 hb
  have e318 : Hid (Reads (w17.alloc (.cells #[.int .i64 0, .int .i64 4] 3)) (w17.alloc (.cells #[.int .i64 0, .int .i64 4] 3)).heap.size 1 (some ⟨w17.heap.size, 0, none⟩) 2 (ints ([0, 4] : List Int))) := reads_at w17 3 (ints ([0, 4] : List Int)) 2 _ (by simp) rfl
  clear hb17 hb x117 y17 z17
  refine (eq_same ([0, 4] : List Int) Ax1 (some ⟨w17.heap.size, 0, none⟩) 2 2 cx1 2 (w17.alloc (.cells #[.int .i64 0, .int .i64 4] 3)) x118 e318 (by omega)).mono ?_
  rintro e w19 ⟨rfl, hb⟩
  have hb19 := below_on hb18 hb
  have y19 := reads_on y18 hb
  have z19 := reads_on z18 hb
  clear hb18 hb x118 y18 z18 e318
  go_wp2_with fail
  have hb : Below w19.heap.size w19 (w19.alloc (.cells #[.int .i64 0, .int .i64 1, .int .i64 2, .int .i64 0, .int .i64 1] 3)) := (Below.refl _ _).alloc (Nat.le_refl _) _
  have hb20 := below_on hb19 hb
  have y20 := reads_on y19 hb
  have z20 := reads_on z19 hb
  have e420 : Hid (Reads (w19.alloc (.cells #[.int .i64 0, .int .i64 1, .int .i64 2, .int .i64 0, .int .i64 1] 3)) (w19.alloc (.cells #[.int .i64 0, .int .i64 1, .int .i64 2, .int .i64 0, .int .i64 1] 3)).heap.size 1 (some ⟨w19.heap.size, 0, none⟩) 5 (ints ([0, 1, 2, 0, 1] : List Int))) := reads_at w19 3 (ints ([0, 1, 2, 0, 1] : List Int)) 5 _ (by simp) rfl
  clear hb19 hb y19 z19
  refine (eq_same ([0, 1, 2, 0, 1] : List Int) Ay (some ⟨w19.heap.size, 0, none⟩) 5 5 cy 5 (w19.alloc (.cells #[.int .i64 0, .int .i64 1, .int .i64 2, .int .i64 0, .int .i64 1] 3)) y20 e420 (by omega)).mono ?_
  rintro e w21 ⟨rfl, hb⟩
  have hb21 := below_on hb20 hb
  have z21 := reads_on z20 hb
  clear hb20 hb y20 z20 e420
  go_wp2_with fail
  have hb : Below w21.heap.size w21 (w21.alloc (.cells #[.int .i64 4, .int .i64 4, .int .i64 0] 3)) := (Below.refl _ _).alloc (Nat.le_refl _) _
  have hb22 := below_on hb21 hb
  have z22 := reads_on z21 hb
  have e522 : Hid (Reads (w21.alloc (.cells #[.int .i64 4, .int .i64 4, .int .i64 0] 3)) (w21.alloc (.cells #[.int .i64 4, .int .i64 4, .int .i64 0] 3)).heap.size 1 (some ⟨w21.heap.size, 0, none⟩) 3 (ints ([4, 4, 0] : List Int))) := reads_at w21 3 (ints ([4, 4, 0] : List Int)) 3 _ (by simp) rfl
  clear hb21 hb z21
  refine (eq_same ([4, 4, 0] : List Int) Az (some ⟨w21.heap.size, 0, none⟩) 3 3 cz 3 (w21.alloc (.cells #[.int .i64 4, .int .i64 4, .int .i64 0] 3)) z22 e522 (by omega)).mono ?_
  rintro e w23 ⟨rfl, hb⟩
  have hb23 := below_on hb22 hb
  clear hb22 hb z22 e522
  go_wp2_with fail
  go_ret
  exact ⟨by simp, hb23.out⟩
end Go.Proofs.Ytjpmhofpfmogiaa
