/- slices.Insert in the middle, slices.Delete at pairs, walked. -/
import Derived.Test.YtfghkmhabpagkaaOSl
import Derived.Laws.Externs
import Derived.Lib.BufferOwn
namespace Go.Proofs.Ytfghkmhabpagkaa
open Go Go.RowKit
set_option linter.unusedVariables false

theorem shape_blk {w : World} {g : Nat} {t : TypeId} {cs : Array Value} (h : Blk w g t cs) : w.shape? g = some (t, cs.size) := by
  unfold Blk at h
  simp [World.shape?, h]
theorem splice_len {α : Type} (L : List α) (o : Nat) (cs : List α) (h : o + cs.length ≤ L.length) : (splice L o cs).length = L.length := by
  unfold splice
  rw [List.length_append, List.length_append, List.length_take, List.length_drop]
  omega
theorem splice_mid (cur : List Value) (l : List Pr) (p : Pr) (n i c : Nat) (hcur : cur.length = c * 2) (ht : cur.take (n * 2) = prs l) (hl : l.length = n) (hi : i < n) (hc : n + 1 ≤ c) :
    (splice (splice cur ((i + 1) * 2) (prs (l.drop i))) (i * 2) (prC p)).take ((n + 1) * 2) = prs (insAt l i p) := by
  have hd : (prs (l.drop i)).length = (n - i) * 2 := by rw [prs_len, List.length_drop, hl]
  have h1 : (splice cur ((i + 1) * 2) (prs (l.drop i))).length = c * 2 := by rw [splice_len _ _ _ (by rw [hd, hcur]; omega), hcur]
  have e1 : (splice cur ((i + 1) * 2) (prs (l.drop i))).take (i * 2) = prs (l.take i) := by
    rw [take_splice_le _ _ _ _ (by rw [hcur]; omega) (by omega), ← prs_take, ← ht, List.take_take, Nat.min_eq_left (by omega)]
  have e2 : (splice cur ((i + 1) * 2) (prs (l.drop i))).drop (i * 2 + (prC p).length) = prs (l.drop i) ++ cur.drop ((n + 1) * 2) := by
    unfold splice
    have h3 : (cur.take ((i + 1) * 2)).length = (i + 1) * 2 := by rw [List.length_take, hcur]; omega
    rw [show i * 2 + (prC p).length = (cur.take ((i + 1) * 2)).length by rw [h3, prC_len]; omega, List.drop_left, hd]
    congr 2
    omega
  unfold splice at e1 e2 ⊢
  rw [e1, e2, prs_ins]
  have h4 : (prs (l.take i) ++ (prC p ++ (prs (l.drop i) ++ cur.drop ((n + 1) * 2)))) = (prs (l.take i) ++ (prC p ++ prs (l.drop i))) ++ cur.drop ((n + 1) * 2) := by simp
  rw [h4]
  have h5 : (prs (l.take i) ++ (prC p ++ prs (l.drop i))).length = (n + 1) * 2 := by
    rw [List.length_append, List.length_append, prs_len, prC_len, hd, List.length_take, hl]
    omega
  rw [← h5]
  exact List.take_left

set_option maxRecDepth 100000 in
set_option maxHeartbeats 4000000 in
theorem insert_mid (l : List Pr) (A : Option Addr) (n c vb base i : Nat) (key val : Int) (w : World) (hown : Hid (w.ownsRow base 38 2 (.slice A n c) n (prs l))) (hvb : Hid (Blk w vb 38 #[.int .u64 key, .int .u64 val]))
    (hne : Value.ownBlock (.slice A n c) ≠ some vb) (hi : i < n) (hn : n ≤ 900000) (hc : n + 1 ≤ c) :
    Calls Try.prog 53 #[.slice A n c, .int .i64 i, .slice (some ⟨vb, 0, none⟩) 1 1] w (RowEnd base (insAt l i ⟨key, val⟩) (.slice A n c) w) := by
  have hll := Lib.hid (prs_n (Reads.of_own hown.out))
  obtain ⟨g, cur, rfl, hbg, hB, hnc, hcm, hsz, htk⟩ := own_open hown.out (by omega)
  have hB := Lib.hid hB
  have hcm63 : c ≤ 9223372036854775807 := by unfold maxLen at hcm; omega
  have hgv : vb ≠ g := fun h => hne (by rw [h]; rfl)
  have hmid := Lib.hid (splice_mid cur.toList l ⟨key, val⟩ n i c (by rw [Array.length_toList, hsz]) htk hll.out hi hc)
  have hdl : (prs (l.drop i)).length = (n - i) * 2 := by rw [prs_len, List.length_drop, hll.out]
  have hlen1 : (splice cur.toList ((i + 1) * 2) (prs (l.drop i))).length = c * 2 := by
    rw [splice_len cur.toList ((i + 1) * 2) (prs (l.drop i)) (by rw [hdl, Array.length_toList, hsz]; omega), Array.length_toList, hsz]
  have hlen2 : (splice (splice cur.toList ((i + 1) * 2) (prs (l.drop i))) (i * 2) (prC ⟨key, val⟩)).length = c * 2 := by
    rw [splice_len (splice cur.toList ((i + 1) * 2) (prs (l.drop i))) (i * 2) (prC ⟨key, val⟩) (by rw [hlen1, prC_len]; omega), hlen1]
  have hCF := Lib.hid (cells_from (k := i) hB.out htk hll.out)
  have hov : ∀ lb cb, (callFunc 57 #[.slice (some ⟨vb, 0, none⟩) 1 1, .slice (some ⟨g, (i + 1) * 2, none⟩) lb cb]).run Try.prog w = .ok (.value (.bool false)) w := fun lb cb => by
    rw [run_callFunc_extern Try.func57 (by kernel_rfl) (by kernel_rfl) (by kernel_rfl) (e := Extern.SlicesOverlaps.overlaps #[22, 22] #[4]) (by kernel_rfl),
      Lib.run_overlaps_apart w 22 4 38 Try.underlying22 2 sizePair ⟨vb, 0, none⟩ ⟨g, (i + 1) * 2, none⟩ 1 1 lb cb hgv 38 38 2 (c * 2) (by have := shape_blk hvb.out; simpa using this) (by rw [shape_blk hB.out, hsz]) (by omega) (hvb.out.frozen 0) (hvb.out.frozen 2)]
    rfl
  have hS := Lib.hid (And.intro hsz (And.intro hcm (And.intro hdl (And.intro hlen1 hlen2))))
  have j0 : (0 : Int) ≤ (i : Int) := by omega
  have j1 : (i : Int) < (n : Int) := by omega
  have e1 : ((i : Int) == (n : Int)) = false := by simp; omega
  have e2 : decide ((c : Int) < (n : Int) + 1) = false := by simp; omega
  have e3 : ¬ (c = i) := by omega
  have e4 : ¬ (c = i + 1) := by omega
  have e6 : (i : Int) ≤ (n : Int) + 1 := by omega
  have e5 : (i : Int) + 1 ≤ (n : Int) + 1 := by omega
  have hw1 : IntKind.i64.wrap ((i : Int) + 1) = (i : Int) + 1 := by rw [IntKind.wrap_i64]; omega
  have htn : ((i : Int) + 1).toNat = i + 1 := by omega
  have hb1 : (0 : Int) ≤ (i : Int) + 1 := by omega
  clear hsz hcm hdl hlen1 hlen2 htk
  go_enter Try.func53, Try.ntmps53
  go_wp2_with (simp only [hov])
  go_region_law (first
    | (refine step_copyS rfl _ _ 22 22 rfl 38 2 Try.underlying22 sizePair2 g ((i + 1) * 2) _ _ ⟨g, i * 2, none⟩ _ _ (by simp [Act.eval, Act.put]; exact ⟨rfl, rfl⟩) (by simp [Act.eval, Act.put]; exact ⟨rfl, rfl⟩) cur 38 (by exact hB.out) (prs (l.drop i)) (by rw [hS.out.2.2.1]; congr 1; simp only [Nat.min_def]; split <;> omega) (by exact hCF.out) (by rw [hS.out.2.2.1, hS.out.1]; omega) (prs_one _) ?_
       intro w1 hB1 hg1))
  have hg1 : w.grownBy w1 (some g) := ⟨hg1.os, hg1.tape, hg1.output, hg1.size, hg1.block⟩
  have hvb1 : Hid (Blk w1 vb 38 #[.int .u64 key, .int .u64 val]) := Lib.hid (hvb.out.grown hg1 (fun e => hgv (Option.some.inj e)))
  have hB1 := Lib.hid hB1
  have hg1 := Lib.hid hg1
  go_wp2_with (
    refine wpList_copyS rfl (.tmp 80) (.tmp 81) 22 22 rfl 38 2 Try.underlying22 sizePair2 g (i * 2) (n + 1 - i) (c - i) ⟨vb, 0, none⟩ 1 1 rfl rfl (splice cur.toList ((i + 1) * 2) (prs (l.drop i))).toArray 38 (by exact hB1.out) (prC ⟨key, val⟩) (by show _ = min 1 (n + 1 - i) * 2; rw [prC_len, Nat.min_eq_left (by omega)]) (fun j u hu => by
      rw [Addr.add_lit, Nat.zero_add, hvb1.out.cell]
      simpa [prC] using hu) (by rw [List.size_toArray, hS.out.2.2.2.1, prC_len]; omega) (prC_one _) ?_
    intro w2 hB2 hg2)
  go_ret
  have hL : (insAt l i ⟨key, val⟩).length = n + 1 := by rw [insAt_len, hll.out]
  unfold RowEnd
  rw [hL]
  refine ⟨_, _, rfl, own_close hbg hB2 hc hS.out.2.1 (by simpa using hS.out.2.2.2.2) (by simpa using hmid.out), Lib.grownBy_trans hg1.out hg2, fun q hq => .inl hq⟩
end Go.Proofs.Ytfghkmhabpagkaa
