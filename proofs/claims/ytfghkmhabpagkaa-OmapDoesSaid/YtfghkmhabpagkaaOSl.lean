/- slices.Clone, Insert, Delete at pairs, walked: what they make of a row of the call's own. -/
import Derived.Test.YtfghkmhabpagkaaOLib
import Derived.Test.YtfghkmhabpagkaaDraws
import Derived.Test.YtfghkmhabpagkaaApp
import Derived.WalkSpells
namespace Go.Proofs.Ytfghkmhabpagkaa
open Go Go.RowKit
set_option linter.unusedVariables false

theorem zeroPair (w : World) : (zeroValue 38).run Try.prog w = .ok (.agg #[.int .u64 0, .int .u64 0]) w := by kernel_rfl
theorem sizePair (w : World) : (sizeOf 38).run Try.prog w = .ok 2 w := by kernel_rfl
theorem sizePair2 : (Try.prog.info? 38).map (·.size) = some 2 := by kernel_rfl
def insAt (l : List Pr) (i : Nat) (p : Pr) : List Pr := l.take i ++ p :: l.drop i
theorem insAt_len (l : List Pr) (i : Nat) (p : Pr) : (insAt l i p).length = l.length + 1 := by
  unfold insAt
  rw [List.length_append, List.length_cons, List.length_take, List.length_drop]
  omega
theorem prs_take (l : List Pr) (k : Nat) : (prs l).take (k * 2) = prs (l.take k) := flat_take prC 2 prC_len l k
theorem prs_drop (l : List Pr) (k : Nat) : (prs l).drop (k * 2) = prs (l.drop k) := flat_drop prC 2 prC_len l k
theorem prs_ins (l : List Pr) (i : Nat) (p : Pr) : prs (insAt l i p) = prs (l.take i) ++ (prC p ++ prs (l.drop i)) := by
  unfold insAt
  rw [prs_append]
  rfl

/-- Cells of a list of pairs that a row holds, from place k on. -/
theorem cells_from {w : World} {g : Nat} {t : TypeId} {cur : Array Value} {n : Nat} {l : List Pr} (hB : Blk w g t cur) (ht : cur.toList.take (n * 2) = prs l) (hl : l.length = n) (k : Nat) :
    ∀ j u, (prs (l.drop k))[j]? = some u → w.cell? ((⟨g, k * 2, none⟩ : Addr).add j) = some u := by
  intro j u hu
  rw [Addr.add_lit, hB.cell]
  rw [← prs_drop, ← ht, List.getElem?_drop, List.getElem?_take] at hu
  split at hu
  · simpa using hu
  · cases hu

set_option maxHeartbeats 1000000 in
theorem clone_nil (n c : Nat) (w : World) : Calls Try.prog 34 #[.slice none n c] w fun e w' => e = .returned (.slice none 0 0) ∧ w = w' := by
  have he := fun w => Lib.run_eql_slice_nil (P := Try.prog) w 22 38 none n c 0 0 Try.underlying22
  go_enter Try.func34, Try.ntmps34
  go_wp2_with fail
  go_ret
  exact ⟨rfl, rfl⟩
def CloneEnd (l : List Pr) (n : Nat) (w : World) (e : Ending) (w' : World) : Prop :=
  ∃ A c, e = .returned (.slice A n c) ∧ w'.ownsRow w.heap.size 38 2 (.slice A n c) n (prs l) ∧ Below w.heap.size w w'
set_option maxHeartbeats 1000000 in
theorem clone_any (l : List Pr) (A : Option Addr) (n c : Nat) (w : World) (hr : Hid (Reads w w.heap.size 2 A n (prs l))) (hn : n ≤ 1000000) :
    Calls Try.prog 34 #[.slice A n c] w (CloneEnd l n w) := by
  rcases A with _ | a
  · have h0 : n = 0 := by
      rcases Nat.eq_zero_or_pos n with h | h
      · exact h
      · obtain ⟨_, h2, _⟩ := hr.out.2 h
        cases h2
    subst h0
    have hl : l = [] := List.eq_nil_of_length_eq_zero (prs_n hr.out)
    subst hl
    refine (clone_nil 0 c w).mono ?_
    rintro e w' ⟨rfl, rfl⟩
    exact ⟨none, 0, rfl, World.ownsRow_nil _ _ _ _, Below.refl _ _⟩
  · obtain ⟨i0, hi0, hz0, hz1, hz2⟩ := info_parts infoPair
    have he := fun w => Lib.run_eql_slice_nil (P := Try.prog) w 22 38 (some a) n c 0 0 Try.underlying22
    go_enter Try.func34, Try.ntmps34
    go_wp2_with (
      at_builtin
      refine wpList_append_any _ rfl (.tmp 5) (.tmp 6) 22 rfl w.heap.size 38 i0 _ 2 16 Try.underlying22 hi0 hz0 hz1 hz2 rfl (by decide) (.slice (some ⟨w.heap.size, 0, none⟩) 0 0) 0 [] rfl (own_lit w #[] 0 _ rfl (Nat.le_refl _) (Nat.zero_le _) rfl) w.heap.size (some a) n c (prs l) rfl (hr.out.alloc (Nat.le_refl _) _) (prs_one _) (by unfold maxLen; omega) (by omega) (by simp) ?_
      intro v1 w1 hown1 hg1 hat1
      rw [Nat.zero_add, List.nil_append] at hown1
      obtain ⟨x, cx, rfl, hcx, hcx'⟩ := own_form hown1)
    have hb1 : Below w.heap.size w w1 := ((Below.refl _ _).alloc (Nat.le_refl _) _).grown hg1 (by simp) (fun q hq => by simp [Value.ownBlock] at hq; omega)
    go_ret
    exact ⟨x, cx, rfl, hown1, hb1⟩

/-- What Insert and Delete leave. -/
def RowEnd (base : Nat) (m : List Pr) (old : Value) (w : World) (e : Ending) (w' : World) : Prop :=
  ∃ A c, e = .returned (.slice A m.length c) ∧ w'.ownsRow base 38 2 (.slice A m.length c) m.length (prs m) ∧ w.grownBy w' old.ownBlock ∧ ∀ q, (Value.slice A m.length c).ownBlock = some q → old.ownBlock = some q ∨ w.heap.size ≤ q

set_option maxRecDepth 100000 in
set_option maxHeartbeats 2000000 in
theorem insert_end (l : List Pr) (A : Option Addr) (n c vb base : Nat) (key val : Int) (w : World) (hown : Hid (w.ownsRow base 38 2 (.slice A n c) n (prs l))) (hvb : Hid (Blk w vb 38 #[.int .u64 key, .int .u64 val]))
    (hn : n ≤ 900000) (hbase : base ≤ w.heap.size) :
    Calls Try.prog 53 #[.slice A n c, .int .i64 n, .slice (some ⟨vb, 0, none⟩) 1 1] w (RowEnd base (insAt l n ⟨key, val⟩) (.slice A n c) w) := by
  obtain ⟨i0, hi0, hz0, hz1, hz2⟩ := info_parts infoPair
  have hll := Lib.hid (prs_n (Reads.of_own hown.out))
  have hcc := own_cap hown.out
  have hvr : Hid (Reads w w.heap.size 2 (some ⟨vb, 0, none⟩) 1 (prC ⟨key, val⟩)) := ⟨rfl, fun _ => ⟨_, rfl, hvb.out.lt, fun j u hu => by
    rw [Addr.add_lit, Nat.zero_add, hvb.out.cell]
    simpa [prC] using hu⟩⟩
  have hcm : c ≤ 9223372036854775807 := by
    obtain ⟨_, _, he, _, h2⟩ := own_form hown.out
    injection he with _ _ e3
    unfold maxLen at h2
    omega
  have j0 : (0 : Int) ≤ (n : Int) := by omega
  have e1 : ((n : Int) == (n : Int)) = true := by simp
  by_cases hcn : c = n
  · subst hcn
    go_enter Try.func53, Try.ntmps53
    go_wp2_with (at_builtin; refine wpList_append_any _ rfl (.tmp 23) (.tmp 24) 22 rfl base 38 i0 _ 2 16 Try.underlying22 hi0 hz0 hz1 hz2 rfl (by decide) (.slice A c c) c (prs l) rfl hown.out w.heap.size (some ⟨vb, 0, none⟩) 1 1 (prC ⟨key, val⟩) rfl hvr.out (prC_one _) (by unfold maxLen; omega) (by omega) hbase ?_; intro v1 w1 hown1 hg1 hat1; obtain ⟨x, cx, rfl, _, _⟩ := own_form hown1)
    all_goals
      go_ret
      have hE : prs l ++ prC ⟨key, val⟩ = prs (insAt l c ⟨key, val⟩) := by
        rw [prs_ins, List.take_of_length_le (by rw [hll.out]; exact Nat.le_refl _), List.drop_of_length_le (by rw [hll.out]; exact Nat.le_refl _)]
        simp [prs]
      rw [hE] at hown1
      have hL : (insAt l c ⟨key, val⟩).length = c + 1 := by rw [insAt_len, hll.out]
      unfold RowEnd
      rw [hL]
      refine ⟨x, cx, rfl, hown1, hg1, fun q hq => ?_⟩
      rcases hat1 with h | h
      · exact .inl (h.symm.trans hq)
      · have := h.symm.trans hq
        exact .inr (Nat.le_of_eq (Option.some.inj this))
  · go_enter Try.func53, Try.ntmps53
    go_wp2_with (at_builtin; refine wpList_append_any _ rfl (.tmp 23) (.tmp 24) 22 rfl base 38 i0 _ 2 16 Try.underlying22 hi0 hz0 hz1 hz2 rfl (by decide) (.slice A n c) n (prs l) rfl hown.out w.heap.size (some ⟨vb, 0, none⟩) 1 1 (prC ⟨key, val⟩) rfl hvr.out (prC_one _) (by unfold maxLen; omega) (by omega) hbase ?_; intro v1 w1 hown1 hg1 hat1; obtain ⟨x, cx, rfl, _, _⟩ := own_form hown1)
    all_goals
      go_ret
      have hE : prs l ++ prC ⟨key, val⟩ = prs (insAt l n ⟨key, val⟩) := by
        rw [prs_ins, List.take_of_length_le (by rw [hll.out]; exact Nat.le_refl _), List.drop_of_length_le (by rw [hll.out]; exact Nat.le_refl _)]
        simp [prs]
      rw [hE] at hown1
      have hL : (insAt l n ⟨key, val⟩).length = n + 1 := by rw [insAt_len, hll.out]
      unfold RowEnd
      rw [hL]
      refine ⟨x, cx, rfl, hown1, hg1, fun q hq => ?_⟩
      rcases hat1 with h | h
      · exact .inl (h.symm.trans hq)
      · have := h.symm.trans hq
        exact .inr (Nat.le_of_eq (Option.some.inj this))
end Go.Proofs.Ytfghkmhabpagkaa
