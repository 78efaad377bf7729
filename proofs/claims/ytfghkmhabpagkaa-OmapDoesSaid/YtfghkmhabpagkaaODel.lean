/- slices.Delete at pairs, walked. -/
import Derived.Test.YtfghkmhabpagkaaOInsG
namespace Go.Proofs.Ytfghkmhabpagkaa
open Go Go.RowKit
set_option linter.unusedVariables false

def cutAt (l : List Pr) (i j : Nat) : List Pr := l.take i ++ l.drop j
theorem cutAt_same (l : List Pr) (i : Nat) : cutAt l i i = l := List.take_append_drop i l
theorem cutAt_len (l : List Pr) (i j n : Nat) (hl : l.length = n) (hi : i ≤ j) (hj : j ≤ n) : (cutAt l i j).length = i + (n - j) := by
  unfold cutAt
  rw [List.length_append, List.length_take, List.length_drop]
  omega

set_option maxRecDepth 100000 in
set_option maxHeartbeats 4000000 in
theorem delete_same (l : List Pr) (A : Option Addr) (n c base i : Nat) (w : World) (hown : Hid (w.ownsRow base 38 2 (.slice A n c) n (prs l))) (hi : i ≤ n) :
    Calls Try.prog 36 #[.slice A n c, .int .i64 i, .int .i64 i] w (RowEnd base l (.slice A n c) w) := by
  have hll := Lib.hid (prs_n (Reads.of_own hown.out))
  have hcc := own_cap hown.out
  have j0 : (0 : Int) ≤ (i : Int) := by omega
  have j1 : (i : Int) ≤ (n : Int) := by omega
  have e1 : ((i : Int) == (i : Int)) = true := by simp
  have hend : ∀ wr : World, wr = w.drew ∨ wr = w → RowEnd base l (.slice A n c) w (.returned (.slice A n c)) wr := fun wr hwr => by
    have hg : w.grownBy wr (Value.slice A n c).ownBlock := by
      rcases hwr with rfl | rfl
      · exact ⟨rfl, rfl, rfl, Nat.le_refl _, fun _ _ _ => rfl⟩
      · exact World.grownBy.refl _ _
    unfold RowEnd
    rw [hll.out]
    refine ⟨A, c, rfl, ?_, hg, fun q hq => .inl hq⟩
    rcases hwr with rfl | rfl
    · exact hown.out
    · exact hown.out
  rcases A with _ | a
  · go_enter Try.func36, Try.ntmps36
    go_wp2_with fail
    go_ret
    exact hend _ (.inr rfl)
  · by_cases hni : n = i
    · subst hni
      go_enter Try.func36, Try.ntmps36
      go_wp2_with fail
      all_goals
        go_ret
        exact hend _ (.inr rfl)
    · go_enter Try.func36, Try.ntmps36
      go_wp2_with fail
      all_goals
        go_ret
        exact hend _ (.inr rfl)

theorem zero_one {k : Nat} : ∀ v ∈ (Builtin.zeroCells (Value.agg #[.int .u64 0, .int .u64 0]).cells k).toList, v.oneCell' = true := by
  intro v hv
  unfold Builtin.zeroCells at hv
  rw [Array.toList_map, List.mem_map] at hv
  obtain ⟨q, _, rfl⟩ := hv
  have hq2 : q % 2 = 0 ∨ q % 2 = 1 := by omega
  show (#[Value.int .u64 0, Value.int .u64 0][q % 2]!).oneCell' = true
  rcases hq2 with h | h <;> rw [h] <;> rfl

set_option maxRecDepth 100000 in
set_option maxHeartbeats 4000000 in
theorem delete_part (l : List Pr) (A : Option Addr) (n c base i j : Nat) (w : World) (hown : Hid (w.ownsRow base 38 2 (.slice A n c) n (prs l))) (hij : i < j) (hj : j ≤ n) :
    Calls Try.prog 36 #[.slice A n c, .int .i64 i, .int .i64 j] w (RowEnd base (cutAt l i j) (.slice A n c) w) := by
  have hll := Lib.hid (prs_n (Reads.of_own hown.out))
  obtain ⟨i0, hi0, hz0, hzs, hzb⟩ := info_parts infoPair
  obtain ⟨g, cur, rfl, hbg, hB, hnc, hcm, hsz, htk⟩ := own_open hown.out (by omega)
  have hB := Lib.hid hB
  have hcm63 : c ≤ 9223372036854775807 := by unfold maxLen at hcm; omega
  have hdl : (prs (l.drop j)).length = (n - j) * 2 := by rw [prs_len, List.length_drop, hll.out]
  have hCF := Lib.hid (cells_from (k := j) hB.out htk hll.out)
  have hlen1 : (splice cur.toList (i * 2) (prs (l.drop j))).length = c * 2 := by
    rw [splice_len cur.toList (i * 2) (prs (l.drop j)) (by rw [hdl, Array.length_toList, hsz]; omega), Array.length_toList, hsz]
  have hz1 : (Builtin.zeroCells (Value.agg #[.int .u64 0, .int .u64 0]).cells (j - i)).toList.length = (j - i) * 2 := by
    rw [Array.length_toList, size_zeroCells]
    rfl
  have hlen2 : (splice (splice cur.toList (i * 2) (prs (l.drop j))) ((i + (n - j)) * 2) (Builtin.zeroCells (Value.agg #[.int .u64 0, .int .u64 0]).cells (j - i)).toList).length = c * 2 := by
    rw [splice_len _ _ _ (by rw [hz1, hlen1]; omega), hlen1]
  have hmid : (splice (splice cur.toList (i * 2) (prs (l.drop j))) ((i + (n - j)) * 2) (Builtin.zeroCells (Value.agg #[.int .u64 0, .int .u64 0]).cells (j - i)).toList).take ((i + (n - j)) * 2) = prs (cutAt l i j) := by
    have htk0 : cur.toList.take (i * 2) = prs (l.take i) := by rw [← prs_take, ← htk, List.take_take, Nat.min_eq_left (by omega)]
    rw [take_splice_le _ _ _ _ (by rw [hlen1]; omega) (Nat.le_refl _), take_splice _ _ _ _ (by rw [Array.length_toList, hsz]; omega) (by rw [hdl]; omega), htk0]
    unfold cutAt
    rw [prs_append]
  have hS := Lib.hid (And.intro hsz (And.intro hcm (And.intro hdl (And.intro hlen1 (And.intro hlen2 hmid)))))
  have j0 : (0 : Int) ≤ (i : Int) := by omega
  have j1 : (i : Int) ≤ (j : Int) := by omega
  have j2 : (j : Int) ≤ (n : Int) := by omega
  have j3 : (0 : Int) ≤ (j : Int) := by omega
  have e1 : ((i : Int) == (j : Int)) = false := by simp; omega
  have e5 : i + (n - j) ≤ n := by omega
  have e6 : ¬ (c = i + (n - j)) := by omega
  have e8 : i ≤ c := by omega
  have e9 : j ≤ c := by omega
  have e10 : i + (n - j) ≤ c := by omega
  have e7 : (i : Int) ≤ (n : Int) := by omega
  clear hsz hcm hdl hlen1 hlen2 htk hmid hz1
  by_cases hcj : c = j
  · subst hcj
    have hnn : n = c := by omega
    subst hnn
    rw [Nat.sub_self, Nat.add_zero] at hS
    go_enter Try.func36, Try.ntmps36
    go_wp2_with fail
    go_region_law (first
      | (refine step_appendS rfl _ _ 22 rfl 38 i0 2 Try.underlying22 hi0 hzs g i n (by simp [Act.eval, Act.put]) cur hB.out hS.out.1 ⟨g, 0, none⟩ 0 0 (by simp [Act.eval, Act.put]) (prs (l.drop n)) hS.out.2.2.1 (by have h0 : l.drop n = [] := List.drop_of_length_le (by rw [hll.out]; omega); rw [h0]; intro q u hq; cases hq) (prs_one _) (by omega) ?_
         intro w1 hB1 hg1))
    have hg1 : w.grownBy w1 (some g) := ⟨hg1.os, hg1.tape, hg1.output, hg1.size, hg1.block⟩
    have hB1 := Lib.hid hB1
    have hg1 := Lib.hid hg1
    go_wp2_with (
      refine wpList_clearS rfl (.tmp 31) 22 rfl 38 (.agg #[.int .u64 0, .int .u64 0]) Try.underlying22 zeroPair g (i * 2) (n - i) (n - i) (by omega) rfl (splice cur.toList (i * 2) (prs (l.drop n))).toArray 38 (by exact hB1.out) (by show _ + _ * 2 ≤ (splice _ _ _).length; rw [hS.out.2.2.2.1]; omega) zero_one ?_
      intro w2 hB2 hg2)
    trace_state
    go_ret
    have hL : (cutAt l i n).length = i := by rw [cutAt_len l i n n hll.out (by omega) hj]; omega
    unfold RowEnd
    rw [hL]
    refine ⟨_, _, rfl, own_close hbg hB2 (by omega) hS.out.2.1 (by simpa using hS.out.2.2.2.2.1) (by simpa using hS.out.2.2.2.2.2), Lib.grownBy_trans hg1.out hg2, fun q hq => .inl hq⟩
  · go_enter Try.func36, Try.ntmps36
    go_wp2_with fail
    go_region_law (first
      | (refine step_appendS rfl _ _ 22 rfl 38 i0 2 Try.underlying22 hi0 hzs g i c (by simp [Act.eval, Act.put]) cur hB.out hS.out.1 ⟨g, j * 2, none⟩ (n - j) (c - j) (by simp [Act.eval, Act.put]) (prs (l.drop j)) hS.out.2.2.1 (by exact hCF.out) (prs_one _) (by omega) ?_
         intro w1 hB1 hg1))
    have hg1 : w.grownBy w1 (some g) := ⟨hg1.os, hg1.tape, hg1.output, hg1.size, hg1.block⟩
    have hB1 := Lib.hid hB1
    have hg1 := Lib.hid hg1
    go_wp2_with (
      refine wpList_clearS rfl (.tmp 31) 22 rfl 38 (.agg #[.int .u64 0, .int .u64 0]) Try.underlying22 zeroPair g ((i + (n - j)) * 2) (n - (i + (n - j))) (c - (i + (n - j))) (by omega) rfl (splice cur.toList (i * 2) (prs (l.drop j))).toArray 38 (by exact hB1.out) (by show _ + _ * 2 ≤ (splice _ _ _).length; rw [hS.out.2.2.2.1]; omega) zero_one ?_
      intro w2 hB2 hg2)
    trace_state
    go_ret
    have hL : (cutAt l i j).length = i + (n - j) := cutAt_len l i j n hll.out (by omega) hj
    unfold RowEnd
    rw [hL]
    rw [show n - (i + (n - j)) = j - i by omega] at hB2
    refine ⟨_, _, rfl, own_close hbg hB2 (by omega) hS.out.2.1 (by simpa using hS.out.2.2.2.2.1) (by simpa using hS.out.2.2.2.2.2), Lib.grownBy_trans hg1.out hg2, fun q hq => .inl hq⟩

theorem sldel_any (l : List Pr) (A : Option Addr) (n c base i j : Nat) (w : World) (hown : w.ownsRow base 38 2 (.slice A n c) n (prs l)) (hij : i ≤ j) (hj : j ≤ n) :
    Calls Try.prog 36 #[.slice A n c, .int .i64 i, .int .i64 j] w (RowEnd base (cutAt l i j) (.slice A n c) w) := by
  rcases Nat.lt_or_eq_of_le hij with h | rfl
  · exact delete_part l A n c base i j w (Lib.hid hown) h hj
  · rw [cutAt_same]
    exact delete_same l A n c base i w (Lib.hid hown) hj
end Go.Proofs.Ytfghkmhabpagkaa
