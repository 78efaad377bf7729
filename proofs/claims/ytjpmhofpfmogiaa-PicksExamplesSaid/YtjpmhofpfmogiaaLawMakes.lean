/- The law PicksMakes, walked (printed by gen_lawmakes.py). -/
import Derived.Test.YtjpmhofpfmogiaaAwake
namespace Go.Proofs.Ytjpmhofpfmogiaa
open Go Go.RowKit
set_option linter.unusedVariables false

theorem rnL_len (t n : Int) : (rnL t n).length ≤ 65536 := by
  unfold rnL
  rcases siz_cases t n with ⟨h1, hc⟩ | ⟨h1, h2, h3, hc⟩ | ⟨h1, h2, h3, hc⟩ | ⟨h1, h2, h3, h4, hc⟩
  · rw [if_neg (by omega)]; simp
  · rw [if_neg (by omega)]; simp
  · rw [if_neg (by omega)]; simp
  · rw [if_pos hc, List.length_map, List.length_range]; omega
theorem mxL_len (s t n : Int) : (mxL s t n).length ≤ 65536 := by
  unfold mxL
  rcases siz_cases t n with ⟨h1, hc⟩ | ⟨h1, h2, h3, hc⟩ | ⟨h1, h2, h3, hc⟩ | ⟨h1, h2, h3, h4, hc⟩
  · rw [if_neg (by omega)]; simp
  · rw [if_neg (by omega)]; simp
  · rw [if_neg (by omega)]; simp
  · rw [if_pos hc, List.length_map, List.length_range]; omega

set_option maxRecDepth 100000 in
set_option maxHeartbeats 4000000 in
theorem makes_a (s t n : Int) (w : World) (h1 : 5000 < n) (h2 : n ≤ 65536) :
    Calls Try.prog 8 #[.int .u64 s, .int .i64 t, .int .i64 n] w fun e w' => e = .returned (.bool true) ∧ Below w.heap.size w w' := by
  have hl1 := rnL_len t 5000
  have hl2 := mxL_len s t 5000
  go_enter Try.func8, Try.ntmps8
  have hb0 : Hid (Below w.heap.size w w) := Below.refl _ _
  go_wp2_with fail
  refine (round_res t 5000 w).mono ?_
  rintro e w1 ⟨Ax, cx, rfl, ho, hb⟩
  obtain ⟨z, kx, kx'⟩ := own_reads ho
  clear ho
  have hb1 := below_on hb0 hb
  have x1 := z
  clear hb0 hb
  clear z
  go_wp2_with fail
  refine (rround_res t 5000 w1).mono ?_
  rintro e w2 ⟨Ay, cy, rfl, ho, hb⟩
  obtain ⟨z, ky, ky'⟩ := own_reads ho
  clear ho
  have hb2 := below_on hb1 hb
  have x2 := reads_on x1 hb
  have y2 := z
  clear hb1 hb x1
  clear z
  go_wp2_with fail
  refine (mixed_res s t 5000 w2).mono ?_
  rintro e w3 ⟨Au, cu, rfl, ho, hb⟩
  obtain ⟨z, ku, ku'⟩ := own_reads ho
  clear ho
  have hb3 := below_on hb2 hb
  have x3 := reads_on x2 hb
  have y3 := reads_on y2 hb
  have u3 := z
  clear hb2 hb x2 y2
  clear z
  go_wp2_with fail
  refine (rmixed_res s t 5000 w3).mono ?_
  rintro e w4 ⟨Av, cv, rfl, ho, hb⟩
  obtain ⟨z, kv, kv'⟩ := own_reads ho
  clear ho
  have hb4 := below_on hb3 hb
  have x4 := reads_on x3 hb
  have y4 := reads_on y3 hb
  have u4 := reads_on u3 hb
  have v4 := z
  clear hb3 hb x3 y3 u3
  clear z
  generalize siz t 5000 = er at *
  generalize rnL t 5000 = xl at *
  generalize mxL s t 5000 = yl at *
  go_wp2_with fail
  refine (eq_same xl Ax Ay xl.length xl.length cx cy w4 x4 y4 (by omega)).mono ?_
  rintro e w5 ⟨rfl, hb⟩
  have hb5 := below_on hb4 hb
  have u5 := reads_on u4 hb
  have v5 := reads_on v4 hb
  clear hb4 hb x4 y4 u4 v4
  go_wp2_with fail
  refine (eq_same yl Au Av yl.length yl.length cu cv w5 u5 v5 (by omega)).mono ?_
  rintro e w6 ⟨rfl, hb⟩
  have hb6 := below_on hb5 hb
  clear hb5 hb u5 v5
  go_wp2_with fail
  refine (awake_any _).mono ?_
  rintro e w7 ⟨rfl, hb⟩
  have hb7 := below_on hb6 hb
  clear hb6 hb
  go_wp2_with fail
  go_ret
  exact ⟨by simp, hb7.out⟩

set_option maxRecDepth 100000 in
set_option maxHeartbeats 4000000 in
theorem makes_b (s t n : Int) (w : World) (h1 : n ≤ 5000) :
    Calls Try.prog 8 #[.int .u64 s, .int .i64 t, .int .i64 n] w fun e w' => e = .returned (.bool true) ∧ Below w.heap.size w w' := by
  have hl1 := rnL_len t n
  have hl2 := mxL_len s t n
  go_enter Try.func8, Try.ntmps8
  have hb0 : Hid (Below w.heap.size w w) := Below.refl _ _
  go_wp2_with fail
  refine (round_res t n w).mono ?_
  rintro e w1 ⟨Ax, cx, rfl, ho, hb⟩
  obtain ⟨z, kx, kx'⟩ := own_reads ho
  clear ho
  have hb1 := below_on hb0 hb
  have x1 := z
  clear hb0 hb
  clear z
  go_wp2_with fail
  refine (rround_res t n w1).mono ?_
  rintro e w2 ⟨Ay, cy, rfl, ho, hb⟩
  obtain ⟨z, ky, ky'⟩ := own_reads ho
  clear ho
  have hb2 := below_on hb1 hb
  have x2 := reads_on x1 hb
  have y2 := z
  clear hb1 hb x1
  clear z
  go_wp2_with fail
  refine (mixed_res s t n w2).mono ?_
  rintro e w3 ⟨Au, cu, rfl, ho, hb⟩
  obtain ⟨z, ku, ku'⟩ := own_reads ho
  clear ho
  have hb3 := below_on hb2 hb
  have x3 := reads_on x2 hb
  have y3 := reads_on y2 hb
  have u3 := z
  clear hb2 hb x2 y2
  clear z
  go_wp2_with fail
  refine (rmixed_res s t n w3).mono ?_
  rintro e w4 ⟨Av, cv, rfl, ho, hb⟩
  obtain ⟨z, kv, kv'⟩ := own_reads ho
  clear ho
  have hb4 := below_on hb3 hb
  have x4 := reads_on x3 hb
  have y4 := reads_on y3 hb
  have u4 := reads_on u3 hb
  have v4 := z
  clear hb3 hb x3 y3 u3
  clear z
  generalize siz t n = er at *
  generalize rnL t n = xl at *
  generalize mxL s t n = yl at *
  go_wp2_with fail
  refine (eq_same xl Ax Ay xl.length xl.length cx cy w4 x4 y4 (by omega)).mono ?_
  rintro e w5 ⟨rfl, hb⟩
  have hb5 := below_on hb4 hb
  have u5 := reads_on u4 hb
  have v5 := reads_on v4 hb
  clear hb4 hb x4 y4 u4 v4
  go_wp2_with fail
  refine (eq_same yl Au Av yl.length yl.length cu cv w5 u5 v5 (by omega)).mono ?_
  rintro e w6 ⟨rfl, hb⟩
  have hb6 := below_on hb5 hb
  clear hb5 hb u5 v5
  go_wp2_with fail
  refine (awake_any _).mono ?_
  rintro e w7 ⟨rfl, hb⟩
  have hb7 := below_on hb6 hb
  clear hb6 hb
  go_wp2_with fail
  go_ret
  exact ⟨by simp, hb7.out⟩

set_option maxRecDepth 100000 in
set_option maxHeartbeats 4000000 in
theorem makes_c (s t n : Int) (w : World) (h1 : 5000 < n) (h2 : ¬ n ≤ 65536) :
    Calls Try.prog 8 #[.int .u64 s, .int .i64 t, .int .i64 n] w fun e w' => e = .returned (.bool true) ∧ Below w.heap.size w w' := by
  have hl1 := rnL_len t n
  have hl2 := mxL_len s t n
  go_enter Try.func8, Try.ntmps8
  have hb0 : Hid (Below w.heap.size w w) := Below.refl _ _
  go_wp2_with fail
  refine (round_res t n w).mono ?_
  rintro e w1 ⟨Ax, cx, rfl, ho, hb⟩
  obtain ⟨z, kx, kx'⟩ := own_reads ho
  clear ho
  have hb1 := below_on hb0 hb
  have x1 := z
  clear hb0 hb
  clear z
  go_wp2_with fail
  refine (rround_res t n w1).mono ?_
  rintro e w2 ⟨Ay, cy, rfl, ho, hb⟩
  obtain ⟨z, ky, ky'⟩ := own_reads ho
  clear ho
  have hb2 := below_on hb1 hb
  have x2 := reads_on x1 hb
  have y2 := z
  clear hb1 hb x1
  clear z
  go_wp2_with fail
  refine (mixed_res s t n w2).mono ?_
  rintro e w3 ⟨Au, cu, rfl, ho, hb⟩
  obtain ⟨z, ku, ku'⟩ := own_reads ho
  clear ho
  have hb3 := below_on hb2 hb
  have x3 := reads_on x2 hb
  have y3 := reads_on y2 hb
  have u3 := z
  clear hb2 hb x2 y2
  clear z
  go_wp2_with fail
  refine (rmixed_res s t n w3).mono ?_
  rintro e w4 ⟨Av, cv, rfl, ho, hb⟩
  obtain ⟨z, kv, kv'⟩ := own_reads ho
  clear ho
  have hb4 := below_on hb3 hb
  have x4 := reads_on x3 hb
  have y4 := reads_on y3 hb
  have u4 := reads_on u3 hb
  have v4 := z
  clear hb3 hb x3 y3 u3
  clear z
  generalize siz t n = er at *
  generalize rnL t n = xl at *
  generalize mxL s t n = yl at *
  go_wp2_with fail
  refine (eq_same xl Ax Ay xl.length xl.length cx cy w4 x4 y4 (by omega)).mono ?_
  rintro e w5 ⟨rfl, hb⟩
  have hb5 := below_on hb4 hb
  have u5 := reads_on u4 hb
  have v5 := reads_on v4 hb
  clear hb4 hb x4 y4 u4 v4
  go_wp2_with fail
  refine (eq_same yl Au Av yl.length yl.length cu cv w5 u5 v5 (by omega)).mono ?_
  rintro e w6 ⟨rfl, hb⟩
  have hb6 := below_on hb5 hb
  clear hb5 hb u5 v5
  go_wp2_with fail
  refine (awake_any _).mono ?_
  rintro e w7 ⟨rfl, hb⟩
  have hb7 := below_on hb6 hb
  clear hb6 hb
  go_wp2_with fail
  go_ret
  exact ⟨by simp, hb7.out⟩

theorem makes_core (s t n : Int) (w : World) :
    Calls Try.prog 8 #[.int .u64 s, .int .i64 t, .int .i64 n] w fun e w' => e = .returned (.bool true) ∧ Below w.heap.size w w' := by
  by_cases h1 : 5000 < n
  · by_cases h2 : n ≤ 65536
    · exact makes_a s t n w h1 h2
    · exact makes_c s t n w h1 h2
  · exact makes_b s t n w (by omega)
theorem makes_law (s t n : Int) (w : World) (w0 : (Lit.int .u64 s).wf = true) (w1 : (Lit.int .i64 t).wf = true) (w2 : (Lit.int .i64 n).wf = true) :
    Calls Try.prog 8 #[.int .u64 s, .int .i64 t, .int .i64 n] w fun e w' => e = .returned (.bool true) ∧ Below w.heap.size w w' := makes_core s t n w
end Go.Proofs.Ytjpmhofpfmogiaa
