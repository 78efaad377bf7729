/- The law PicksExpands, walked (printed by gen_lawexp.py). -/
import Derived.Test.YtjpmhofpfmogiaaAwake
import Derived.Test.YtjpmhofpfmogiaaOpen
namespace Go.Proofs.Ytjpmhofpfmogiaa
open Go Go.RowKit
set_option linter.unusedVariables false

theorem exL_len (l : List Int) : (exL l).length ≤ 65536 := by
  unfold exL
  split
  · rename_i h
    unfold exErr at h
    split at h
    · omega
    · split at h
      · omega
      · rename_i h1 h2
        have := expd_len l (by cases hb : bad l with | false => rfl | true => exact absurd (.inr hb) h1)
        omega
  · simp
theorem take_all {l : List Int} {A : Option Addr} {n c : Nat} {w : World} (h : IsInts w A n c l) : l.length = n := h.len

set_option maxRecDepth 100000 in
set_option maxHeartbeats 4000000 in
theorem expands_a (A : Option Addr) (n c : Nat) (l : List Int) (w : World) (hr : Hid (Reads w w.heap.size 1 A n (ints l))) (hnc : n ≤ c) (hc : c ≤ 9223372036854775807) (hm : n ≤ 40) :
    Calls Try.prog 4 #[.slice A n c] w fun e w' => e = .returned (.bool true) ∧ Below w.heap.size w w' := by
  have hm' : (n : Int) ≤ 40 := by omega
  have hm2 : True := by trivial
  have hxl := exL_len l
  go_enter Try.func4, Try.ntmps4
  have hb0 : Hid (Below w.heap.size w w) := Below.refl _ _
  go_wp2_with fail
  refine (copy_any l A n c w hr (by omega)).mono ?_
  rintro e w1 ⟨A1, c1, rfl, ho, hb⟩
  obtain ⟨z, k1, k1'⟩ := own_reads ho
  clear ho
  have hb1 := below_on hb0 hb
  have l1 := reads_on hr hb
  have in1 := z
  clear hb0 hb hr
  clear z
  go_wp2_with fail
  refine (expand_res l A1 n c1 w1 in1 (by omega)).mono ?_
  rintro e w2 ⟨A2, c2, rfl, ho, hb⟩
  obtain ⟨z, k2, k2'⟩ := own_reads ho
  clear ho
  have hb2 := below_on hb1 hb
  have l2 := reads_on l1 hb
  have in2 := reads_on in1 hb
  have x2 := z
  clear hb1 hb l1 in1
  clear z
  go_wp2_with fail
  refine (rexpand_res l A n c w2 l2 (by omega)).mono ?_
  rintro e w3 ⟨A3, c3, rfl, ho, hb⟩
  obtain ⟨z, k3, k3'⟩ := own_reads ho
  clear ho
  have hb3 := below_on hb2 hb
  have l3 := reads_on l2 hb
  have in3 := reads_on in2 hb
  have x3 := reads_on x2 hb
  have y3 := z
  clear hb2 hb l2 in2 x2
  clear z
  generalize exErr l = er at *
  generalize exL l = xl at *
  go_wp2_with fail
  refine (eq_same xl A2 A3 xl.length xl.length c2 c3 w3 x3 y3 (by omega)).mono ?_
  rintro e w4 ⟨rfl, hb⟩
  have hb4 := below_on hb3 hb
  have l4 := reads_on l3 hb
  have in4 := reads_on in3 hb
  clear hb3 hb l3 in3 x3 y3
  go_wp2_with fail
  refine (eq_same l A1 A n n c1 c w4 in4 l4 (by omega)).mono ?_
  rintro e w5 ⟨rfl, hb⟩
  have hb5 := below_on hb4 hb
  clear hb4 hb l4 in4
  go_wp2_with fail
  refine (awake_any _).mono ?_
  rintro e w6 ⟨rfl, hb⟩
  have hb6 := below_on hb5 hb
  clear hb5 hb
  go_wp2_with fail
  go_ret
  exact ⟨by simp, hb6.out⟩

set_option maxRecDepth 100000 in
set_option maxHeartbeats 4000000 in
theorem expands_b (A : Option Addr) (n c : Nat) (l : List Int) (w : World) (hr : Hid (Reads w w.heap.size 1 A 40 (ints (l.take 40)))) (hnc : n ≤ c) (hc : c ≤ 9223372036854775807) (hm : ¬ n ≤ 40) :
    Calls Try.prog 4 #[.slice A n c] w fun e w' => e = .returned (.bool true) ∧ Below w.heap.size w w' := by
  have hm' : ¬ ((n : Int) ≤ 40) := by omega
  have hm2 : (40 : Int) ≤ (c : Int) := by omega
  have hxl := exL_len (l.take 40)
  go_enter Try.func4, Try.ntmps4
  have hb0 : Hid (Below w.heap.size w w) := Below.refl _ _
  go_wp2_with fail
  refine (copy_any (l.take 40) A 40 c w hr (by omega)).mono ?_
  rintro e w1 ⟨A1, c1, rfl, ho, hb⟩
  obtain ⟨z, k1, k1'⟩ := own_reads ho
  clear ho
  have hb1 := below_on hb0 hb
  have l1 := reads_on hr hb
  have in1 := z
  clear hb0 hb hr
  clear z
  go_wp2_with fail
  refine (expand_res (l.take 40) A1 40 c1 w1 in1 (by omega)).mono ?_
  rintro e w2 ⟨A2, c2, rfl, ho, hb⟩
  obtain ⟨z, k2, k2'⟩ := own_reads ho
  clear ho
  have hb2 := below_on hb1 hb
  have l2 := reads_on l1 hb
  have in2 := reads_on in1 hb
  have x2 := z
  clear hb1 hb l1 in1
  clear z
  go_wp2_with fail
  refine (rexpand_res (l.take 40) A 40 c w2 l2 (by omega)).mono ?_
  rintro e w3 ⟨A3, c3, rfl, ho, hb⟩
  obtain ⟨z, k3, k3'⟩ := own_reads ho
  clear ho
  have hb3 := below_on hb2 hb
  have l3 := reads_on l2 hb
  have in3 := reads_on in2 hb
  have x3 := reads_on x2 hb
  have y3 := z
  clear hb2 hb l2 in2 x2
  clear z
  generalize exErr (l.take 40) = er at *
  generalize exL (l.take 40) = xl at *
  go_wp2_with fail
  refine (eq_same xl A2 A3 xl.length xl.length c2 c3 w3 x3 y3 (by omega)).mono ?_
  rintro e w4 ⟨rfl, hb⟩
  have hb4 := below_on hb3 hb
  have l4 := reads_on l3 hb
  have in4 := reads_on in3 hb
  clear hb3 hb l3 in3 x3 y3
  go_wp2_with fail
  refine (eq_same (l.take 40) A1 A 40 40 c1 c w4 in4 l4 (by omega)).mono ?_
  rintro e w5 ⟨rfl, hb⟩
  have hb5 := below_on hb4 hb
  clear hb4 hb l4 in4
  go_wp2_with fail
  refine (awake_any _).mono ?_
  rintro e w6 ⟨rfl, hb⟩
  have hb6 := below_on hb5 hb
  clear hb5 hb
  go_wp2_with fail
  go_ret
  exact ⟨by simp, hb6.out⟩

theorem expands_core (A : Option Addr) (n c : Nat) (l : List Int) (w : World) (h : Hid (Reads w w.heap.size 1 A n (ints l))) (hnc : n ≤ c) (hcap : c ≤ 9223372036854775807) :
    Calls Try.prog 4 #[.slice A n c] w fun e w' => e = .returned (.bool true) ∧ Below w.heap.size w w' := by
  by_cases hm : n ≤ 40
  · exact expands_a A n c l w h hnc hcap hm
  · have hr : Reads w w.heap.size 1 A 40 (ints (l.take 40)) := by
      rw [← ints_take]
      exact h.out.take_ (by omega)
    exact expands_b A n c l w hr hnc hcap hm
theorem expands_law (A : Option Addr) (n c : Nat) (l : List Int) (w : World) (h : IsInts w A n c l) :
    Calls Try.prog 4 #[.slice A n c] w fun e w' => e = .returned (.bool true) ∧ Below w.heap.size w w' :=
  expands_core A n c l w h.reads h.le (by have := h.cap; unfold maxLen at this; exact this)
end Go.Proofs.Ytjpmhofpfmogiaa
