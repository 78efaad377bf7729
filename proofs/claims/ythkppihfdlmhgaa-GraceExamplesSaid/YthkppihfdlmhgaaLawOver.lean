/- The law GraceOvers, walked (printed by gen_lawover.py). -/
import Derived.Test.YthkppihfdlmhgaaGAwake
import Derived.Test.YthkppihfdlmhgaaRefOv
import Derived.Test.YthkppihfdlmhgaaWrt
import Derived.Test.YthkppihfdlmhgaaOpenE
namespace Go.Proofs.Ythkppihfdlmhgaa
open Go Go.RowKit
set_option linter.unusedVariables false

theorem ovL_len (l : List Ev) (t s : Int) : (ovL l t s).length ≤ l.length := by
  unfold ovL
  split
  · exact Nat.le_trans (List.length_filter_le _ _) (secsK_len 1 l)
  · simp
theorem wf_take {l : List Ev} (h : WfE l) (k : Nat) : WfE (l.take k) := fun p hp => h p (List.mem_of_mem_take hp)
theorem u64_wf {s : Int} (h : (Lit.int .u64 s).wf = true) : 0 ≤ s ∧ s < 18446744073709551616 := by
  unfold Lit.wf at h
  simp only [Bool.and_eq_true, decide_eq_true_eq] at h
  have h1 : IntKind.u64.min = 0 := by decide
  have h2 : IntKind.u64.max = 18446744073709551615 := by decide
  omega
theorem i64_wf {s : Int} (h : (Lit.int .i64 s).wf = true) : -9223372036854775808 ≤ s ∧ s ≤ 9223372036854775807 := by
  unfold Lit.wf at h
  simp only [Bool.and_eq_true, decide_eq_true_eq] at h
  have h1 : IntKind.i64.min = -9223372036854775808 := by decide
  have h2 : IntKind.i64.max = 9223372036854775807 := by decide
  omega
theorem wf_ev {w : World} {A : Option Addr} {n c : Nat} {l : List Ev} (h : IsEvents w A n c l) : WfE l := fun p hp => by
  obtain ⟨h1, _, _, h4⟩ := h.wf p hp
  exact ⟨(i64_wf h1).2, u64_wf h4⟩

set_option maxRecDepth 100000 in
set_option maxHeartbeats 8000000 in
theorem overs_core (t s : Int) (A : Option Addr) (n c : Nat) (l : List Ev) (w : World) (hr : Hid (Reads w w.heap.size 4 A n (evs l))) (hnc : n ≤ c) (hc : c ≤ 9223372036854775807) (hw : WfE l) (h0 : 0 ≤ s) (h1 : s < 18446744073709551616) :
    Calls Try.prog 3 #[.slice A n c, .int .i64 t, .int .u64 s] w fun e w' => e = .returned (.bool true) ∧ Below w.heap.size w w' := by
  obtain ⟨L, hL⟩ : ∃ L, Hid (l.take 80 = L) := ⟨_, rfl⟩
  have hwL : WfE L := by rw [← hL.out]; exact wf_take hw 80
  have hlen : Hid (L.length ≤ 80) := by unfold Hid; rw [← hL.out, List.length_take]; omega
  go_enter Try.func3, Try.ntmps3
  have hb0 : Hid (Below w.heap.size w w) := Below.refl _ _
  go_wp2_with fail
  refine (few_at l A n c w hr hnc hc).mono ?_
  rintro e w1 ⟨A1, n1, c1, hE, hn, ho, hb⟩
  rw [hL.out] at hn ho
  have hm1 : n1 ≤ 80 := by have := hlen.out; omega
  clear hn
  subst hE
  obtain ⟨zz, kk, kk'⟩ := own_reads ho
  clear ho kk kk'
  have hb1 := below_on hb0 hb
  have r1 := reads_on hr hb
  have a1 := zz
  clear hb0 hb hr
  clear zz
  go_wp2_with fail
  refine (over_any L t s A1 n1 c1 w1 a1 (by omega) hwL h0 h1).mono ?_
  rintro e w2 ⟨A2, n2, c2, hE, hn, ho, hb⟩
  have hl2 := ovL_len L t s
  have hm2 : n2 ≤ 80 := by have := hlen.out; omega
  clear hn hl2
  subst hE
  obtain ⟨zz, kk, kk'⟩ := own_reads ho
  clear ho kk kk'
  have hb2 := below_on hb1 hb
  have r2 := reads_on r1 hb
  have a2 := reads_on a1 hb
  have x2 := zz
  clear hb1 hb r1 a1
  clear zz
  go_wp2_with fail
  refine (few_at l A n c w2 r2 hnc hc).mono ?_
  rintro e w3 ⟨A3, n3, c3, hE, hn, ho, hb⟩
  rw [hL.out] at hn ho
  have hm3 : n3 ≤ 80 := by have := hlen.out; omega
  clear hn
  subst hE
  obtain ⟨zz, kk, kk'⟩ := own_reads ho
  clear ho kk kk'
  have hb3 := below_on hb2 hb
  have r3 := reads_on r2 hb
  have a3 := reads_on a2 hb
  have x3 := reads_on x2 hb
  have b3 := zz
  clear hb2 hb r2 a2 x2
  clear zz
  go_wp2_with fail
  refine (rover_any L t s A3 n3 c3 w3 b3 (by omega) hwL h0 h1).mono ?_
  rintro e w4 ⟨A4, n4, c4, hE, hn, ho, hb⟩
  clear hn
  subst hE
  obtain ⟨zz, kk, kk'⟩ := own_reads ho
  clear ho kk kk'
  have hb4 := below_on hb3 hb
  have r4 := reads_on r3 hb
  have a4 := reads_on a3 hb
  have x4 := reads_on x3 hb
  have y4 := zz
  clear hb3 hb r3 a3 x3 b3
  clear zz
  generalize ovEr L t s = er
  go_wp2_with fail
  refine (sameSe (ovL L t s) A2 A4 n2 n4 c2 c4 w4 x4 y4 (by omega)).mono ?_
  rintro e w5 ⟨rfl, hb⟩
  have hb5 := below_on hb4 hb
  have r5 := reads_on r4 hb
  have a5 := reads_on a4 hb
  clear hb4 hb r4 a4 x4 y4
  go_wp2_with fail
  refine (few_at l A n c w5 r5 hnc hc).mono ?_
  rintro e w6 ⟨A5, n5, c5, hE, hn, ho, hb⟩
  rw [hL.out] at hn ho
  have hm5 : n5 ≤ 80 := by have := hlen.out; omega
  clear hn
  subst hE
  obtain ⟨zz, kk, kk'⟩ := own_reads ho
  clear ho kk kk'
  have hb6 := below_on hb5 hb
  have r6 := reads_on r5 hb
  have a6 := reads_on a5 hb
  have d6 := zz
  clear hb5 hb r5 a5
  clear zz
  go_wp2_with fail
  refine (sameEv L A1 A5 n1 n5 c1 c5 w6 a6 d6 (by omega)).mono ?_
  rintro e w7 ⟨rfl, hb⟩
  have hb7 := below_on hb6 hb
  have r7 := reads_on r6 hb
  clear hb6 hb r6 a6 d6
  go_wp2_with fail
  refine (awake_any w7).mono ?_
  rintro e w8 ⟨rfl, hb⟩
  have hb8 := below_on hb7 hb
  have r8 := reads_on r7 hb
  clear hb7 hb r7
  go_wp2_with fail
  go_ret
  exact ⟨rfl, hb8.out⟩
theorem overs_law (A : Option Addr) (n c : Nat) (l : List Ev) (t s : Int) (w : World) (hI : IsEvents w A n c l) (wt : (Lit.int .i64 t).wf = true) (ws : (Lit.int .u64 s).wf = true) :
    Calls Try.prog 3 #[.slice A n c, .int .i64 t, .int .u64 s] w fun e w' => e = .returned (.bool true) ∧ Below w.heap.size w w' :=
  overs_core t s A n c l w hI.reads hI.le (by have := hI.cap; unfold maxLen at this; exact this) (wf_ev hI) (u64_wf ws).1 (u64_wf ws).2
end Go.Proofs.Ythkppihfdlmhgaa
