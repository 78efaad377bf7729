/- The law PlanUndoes, walked. -/
import Derived.Test.YtlaocajjenfgpaaApp
import Derived.Test.YtlaocajjenfgpaaCounts
import Derived.Test.YtlaocajjenfgpaaDelW
import Derived.Test.YtlaocajjenfgpaaSame
import Derived.Test.YtlaocajjenfgpaaOpenS
namespace Go.Proofs.Ytlaocajjenfgpaa
open Go Go.RowKit
set_option linter.unusedVariables false

/-- A list in memory of the call's own, seen as a list that is read. -/
theorem own_reads {w : World} {base e size n c : Nat} {A : Option Addr} {xs : List Value} (h : w.ownsRow base e size (.slice A n c) n xs) : Hid (Reads w w.heap.size size A n xs) ∧ n ≤ c ∧ c ≤ 9223372036854775807 := by
  obtain ⟨A', c', he, h1, h2⟩ := own_form h
  injection he with _ _ e3
  subst e3
  unfold maxLen at h2
  exact ⟨Reads.of_own h, h1, h2⟩
/-- What was read before is read behind. -/
theorem reads_on {w w' : World} {size n : Nat} {A : Option Addr} {xs : List Value} (h : Hid (Reads w w.heap.size size A n xs)) (hb : Below w.heap.size w w') : Hid (Reads w' w'.heap.size size A n xs) := (h.out.below hb).more hb.size
theorem below_on {w w1 w2 : World} (h : Hid (Below w.heap.size w w1)) (hb : Below w1.heap.size w1 w2) : Hid (Below w.heap.size w w2) := h.out.trans (hb.mono h.out.size)
theorem app_le {l : List Chg} {ps r : List Pr} (hl : Plan l) (h : app l ps = some r) : r.length ≤ ps.length + l.length := by
  have h1 := app_len l (plan_iff.1 hl).1 ps r h
  have h2 := counts_all l
  omega

set_option maxRecDepth 100000 in
set_option maxHeartbeats 2000000 in
theorem undoes_law (a0 : Option Addr) (len0 cap0 : Nat) (ps : List Pr) (a1 : Option Addr) (len1 cap1 : Nat) (l : List Chg) (w : World) (h0 : IsPairs w a0 len0 cap0 ps) (h1 : IsChanges w a1 len1 cap1 l) :
    Calls Try.prog 7 #[.slice a0 len0 cap0, .slice a1 len1 cap1] w fun e w' => e = .returned (.bool true) ∧ Below w.heap.size w w' := by
  have hr : Hid (Reads w w.heap.size 2 a0 len0 (prs ps)) := h0.reads
  have hr' : Hid (Reads w w.heap.size 5 a1 len1 (chs l)) := h1.reads
  have hm0 : len0 ≤ cap0 ∧ cap0 ≤ 9223372036854775807 := by have h1 := h0.le; have h2 := h0.cap; unfold maxLen at h2; omega
  have hm1 : len1 ≤ cap1 ∧ cap1 ≤ 9223372036854775807 := by have h2 := h1.le; have h3 := h1.cap; unfold maxLen at h3; omega
  obtain ⟨hm0, hm0'⟩ := hm0
  obtain ⟨hm1, hm1'⟩ := hm1
  have hl0 := Lib.hid (prs_n hr.out)
  have hl1 := Lib.hid (chs_n hr'.out)
  clear h0 h1
  by_cases hbig : 60 < len0
  · have hd : decide ((60 : Int) < (len0 : Int)) = true := by simp; omega
    go_enter Try.func7, Try.ntmps7
    go_wp2_with fail
    refine (known_any _).mono ?_
    rintro e w1 ⟨rfl, hb⟩
    have hb1 := Lib.hid hb
    clear hb
    go_wp2_with fail
    go_ret
    exact ⟨rfl, hb1.out⟩
  · have hd : decide ((60 : Int) < (len0 : Int)) = false := by simp; omega
    by_cases hbig1 : 60 < len1
    · have hd1 : decide ((60 : Int) < (len1 : Int)) = true := by simp; omega
      go_enter Try.func7, Try.ntmps7
      go_wp2_with fail
      refine (known_any _).mono ?_
      rintro e w1 ⟨rfl, hb⟩
      have hb1 := Lib.hid hb
      clear hb
      go_wp2_with fail
      go_ret
      exact ⟨rfl, hb1.out⟩
    · have hd1 : decide ((60 : Int) < (len1 : Int)) = false := by simp; omega
      go_enter Try.func7, Try.ntmps7
      go_wp2_with fail
      refine (apply_any ps l a0 a1 len0 len1 cap0 cap1 w hr hr' (by omega) (by omega) hm0 hm0').mono ?_
      rintro e w1 ⟨g1, g2, g3, hb⟩
      have hb1 := Lib.hid hb
      clear hb
      by_cases hok : Asc ps ∧ Plan l
      · rcases hap : app l ps with _ | r
        · obtain rfl := g2 hok hap
          clear g1 g2 g3
          go_wp2_with fail
          refine (known_any _).mono ?_
          rintro e w2 ⟨rfl, hb⟩
          have hb2 := below_on hb1 hb
          clear hb
          go_wp2_with fail
          go_ret
          exact ⟨rfl, hb2.out⟩
        · obtain ⟨A1, c1, rfl, ho⟩ := g3 hok r hap
          have hP := Lib.hid hok
          have hA := Lib.hid hap
          have hle := app_le hok.2 hap
          rw [hl0.out, hl1.out] at hle
          obtain ⟨ha, hac, hac'⟩ := own_reads ho
          have hback : Hid (app (inv l) r = some ps) := app_inv hok.2 hok.1 hap
          have hrs : Hid (Asc r) := (app_some hok.2 hok.1 hap).1
          have hlen : Hid (r.length + gone l = len0 + born l) := by
            have := app_len l (plan_iff.1 hok.2).1 ps r hap
            rw [hl0.out] at this
            exact this
          have hcnt : Hid (born l + gone l + swapped l = len1) := by
            have := counts_all l
            rw [hl1.out] at this
            exact this
          have hbi := Lib.hid (born_inv l (plan_iff.1 hok.2).1)
          have hPI : Hid (Plan (inv l)) := plan_inv hok.2
          obtain ⟨n, hn⟩ : ∃ n, r.length = n := ⟨_, rfl⟩
          rw [hn] at hle ha hac hlen ⊢
          clear hn g1 g2 g3 hok hap ho
          go_wp2_with fail
          refine (invert_any l a1 len1 cap1 w1 (reads_on hr' hb1.out) (by omega)).mono ?_
          rintro e w2 ⟨g1, _, hb⟩
          obtain ⟨A2, c2, rfl, ho⟩ := g1 hP.out.2
          rw [hl1.out] at ho ⊢
          obtain ⟨hi, hic, hic'⟩ := own_reads ho
          have ha2 := reads_on ha hb
          have hb2 := below_on hb1 hb
          clear g1 hb ho hb1 ha
          go_wp2_with fail
          refine (invert_any (inv l) A2 len1 c2 w2 hi (by omega)).mono ?_
          rintro e w3 ⟨g1, _, hb⟩
          obtain ⟨A3, c3, rfl, ho⟩ := g1 hPI.out
          have hil : (inv l).length = len1 := by rw [show (inv l).length = l.length from List.length_map .., hl1.out]
          rw [hil, inv_inv] at ho
          rw [hil]
          obtain ⟨hj, hjc, hjc'⟩ := own_reads ho
          have ha3 := reads_on ha2 hb
          have hi3 := reads_on hi hb
          have hb3 := below_on hb2 hb
          clear g1 hb ho hb2 ha2 hi hil
          go_wp2_with fail
          refine (apply_any r (inv l) A1 A2 n len1 c1 c2 w3 ha3 hi3 (by omega) (by omega) hac hac').mono ?_
          rintro e w4 ⟨_, _, g3, hb⟩
          obtain ⟨A4, c4, rfl, ho⟩ := g3 ⟨hrs.out, hPI.out⟩ ps hback.out
          rw [hl0.out] at ho ⊢
          obtain ⟨hk, hkc, hkc'⟩ := own_reads ho
          have hj4 := reads_on hj hb
          have hi4 := reads_on hi3 hb
          have hb4 := below_on hb3 hb
          clear g3 hb ho hb3 ha3 hi3 hj
          go_wp2_with fail
          refine (equalC l A3 a1 len1 len1 c3 cap1 w4 hj4 (reads_on hr' hb4.out) (by omega)).mono ?_
          rintro e w5 ⟨rfl, hb⟩
          have hk5 := reads_on hk hb
          have hi5 := reads_on hi4 hb
          have hb5 := below_on hb4 hb
          clear hb hb4 hk hi4 hj4
          go_wp2_with fail
          refine (sameL ps A4 a0 len0 len0 c4 cap0 w5 hk5 (reads_on hr hb5.out) (by omega)).mono ?_
          rintro e w6 ⟨rfl, hb⟩
          have hi6 := reads_on hi5 hb
          have hb6 := below_on hb5 hb
          clear hb hb5 hk5 hi5
          go_wp2_with fail
          refine (counts_any l a1 len1 cap1 w6 (reads_on hr' hb6.out) (by omega)).mono ?_
          rintro e w7 ⟨g1, _, hb⟩
          obtain rfl := g1 hP.out.2
          have hi7 := reads_on hi6 hb
          have hb7 := below_on hb6 hb
          clear g1 hb hb6 hi6
          go_wp2_with fail
          refine (counts_any (inv l) A2 len1 c2 w7 hi7 (by omega)).mono ?_
          rintro e w8 ⟨g1, _, hb⟩
          obtain rfl := g1 hPI.out
          have hb8 := below_on hb7 hb
          rw [hbi.out.1, hbi.out.2.1, hbi.out.2.2]
          clear g1 hb hb7 hi7 hbi
          obtain ⟨x, hx⟩ : ∃ x, born l = x := ⟨_, rfl⟩
          obtain ⟨y, hy⟩ : ∃ y, gone l = y := ⟨_, rfl⟩
          obtain ⟨z, hz⟩ : ∃ z, swapped l = z := ⟨_, rfl⟩
          rw [hx, hy, hz] at hcnt ⊢
          rw [hx, hy] at hlen
          clear hx hy hz
          have hcnt := hcnt.out
          have hlen := hlen.out
          have e1 : ((x : Int) != (x : Int)) = false := by simp
          have e2 : ((y : Int) != (y : Int)) = false := by simp
          have e3 : ((z : Int) != (z : Int)) = false := by simp
          have e4 : ((x : Int) + (y : Int) + (z : Int) != (len1 : Int)) = false := by simp; omega
          have e5 : ((n : Int) == (len0 : Int) + (x : Int) - (y : Int)) = true := by simp; omega
          have x0 : (0 : Int) ≤ (x : Int) := by omega
          have y0 : (0 : Int) ≤ (y : Int) := by omega
          have z0 : (0 : Int) ≤ (z : Int) := by omega
          have u1 : (x : Int) + (y : Int) ≤ 60 := by omega
          have u2 : (x : Int) + (y : Int) + (z : Int) ≤ 60 := by omega
          have u3 : (len0 : Int) + (x : Int) ≤ 120 := by omega
          have u4 : (y : Int) ≤ 60 := by omega
          have hlen := Lib.hid hlen
          have hcnt := Lib.hid hcnt
          go_wp2_with fail
          refine (known_any _).mono ?_
          rintro e w9 ⟨rfl, hb⟩
          have hb9 := below_on hb8 hb
          clear hb
          go_wp2_with fail
          go_ret
          exact ⟨by simp, hb9.out⟩
      · obtain rfl := g1 hok
        clear g1 g2 g3 hok
        go_wp2_with fail
        refine (known_any _).mono ?_
        rintro e w2 ⟨rfl, hb⟩
        have hb2 := below_on hb1 hb
        clear hb
        go_wp2_with fail
        go_ret
        exact ⟨rfl, hb2.out⟩
end Go.Proofs.Ytlaocajjenfgpaa
