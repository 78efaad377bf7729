/- slices.Insert in the middle of a full row of pairs, walked: a new row. -/
import Derived.Test.YtfghkmhabpagkaaOIns
import Derived.Lib.AppendZerosOnto
namespace Go.Proofs.Ytfghkmhabpagkaa
open Go Go.RowKit
set_option linter.unusedVariables false

theorem grown_new {a w w' : World} {row : Option Nat} {h : Nat} (h1 : a.grownBy w row) (h2 : w.grownBy w' (some h)) (hh : a.heap.size ≤ h) : a.grownBy w' row :=
  ⟨h2.os.trans h1.os, h2.tape.trans h1.tape, h2.output.trans h1.output, Nat.le_trans h1.size h2.size, fun i hi hr => (h2.block i (Nat.lt_of_lt_of_le hi h1.size) (fun e => by have := Option.some.inj e; omega)).trans (h1.block i hi hr)⟩
theorem splice_grow (cur : List Value) (l : List Pr) (p : Pr) (n i c : Nat) (hcur : cur.length = c * 2) (ht : cur.take (i * 2) = prs (l.take i)) (hl : l.length = n) (hi : i < n) (hc : n + 1 ≤ c) :
    (splice (splice cur (i * 2) (prC p)) ((i + 1) * 2) (prs (l.drop i))).take ((n + 1) * 2) = prs (insAt l i p) := by
  have hd : (prs (l.drop i)).length = (n - i) * 2 := by rw [prs_len, List.length_drop, hl]
  have h1 : (splice cur (i * 2) (prC p)).length = c * 2 := by rw [splice_len cur (i * 2) (prC p) (by rw [prC_len, hcur]; omega), hcur]
  rw [take_splice _ _ _ _ (by rw [h1]; omega) (by rw [hd]; omega), take_splice _ _ _ _ (by rw [hcur]; omega) (by rw [prC_len]; omega), ht, prs_ins, List.append_assoc]

set_option maxRecDepth 100000 in
set_option maxHeartbeats 4000000 in
theorem insert_grow (l : List Pr) (A : Option Addr) (n vb base i : Nat) (key val : Int) (w : World) (hown : Hid (w.ownsRow base 38 2 (.slice A n n) n (prs l))) (hvb : Hid (Blk w vb 38 #[.int .u64 key, .int .u64 val]))
    (hne : Value.ownBlock (.slice A n n) ≠ some vb) (hi : i < n) (hn : n ≤ 900000) (hbase : base ≤ w.heap.size) :
    Calls Try.prog 53 #[.slice A n n, .int .i64 i, .slice (some ⟨vb, 0, none⟩) 1 1] w (RowEnd base (insAt l i ⟨key, val⟩) (.slice A n n) w) := by
  obtain ⟨i0, hi0, hz0, hzs, hzb⟩ := info_parts infoPair
  have hll := Lib.hid (prs_n (Reads.of_own hown.out))
  obtain ⟨g, cur, rfl, hbg, hB, hnc, hcm, hsz, htk⟩ := own_open hown.out (by omega)
  have hgw := hB.lt
  have hvw := hvb.out.lt
  have hB := Lib.hid hB
  have hcm63 : n ≤ 9223372036854775807 := by unfold maxLen at hcm; omega
  have hdl : (prs (l.drop i)).length = (n - i) * 2 := by rw [prs_len, List.length_drop, hll.out]
  have htk0 : cur.toList.take (i * 2) = prs (l.take i) := by rw [← prs_take, ← htk, List.take_take, Nat.min_eq_left (by omega)]
  have hCF := Lib.hid (cells_from (k := i) hB.out htk hll.out)
  have hold : (Builtin.firstCells i0.size i (.slice (some ⟨g, 0, none⟩) i n)).run Try.prog w.drew = .ok (prs (l.take i)).toArray w.drew := by
    rw [hzs]
    exact run_firstCells_some w.drew 2 i ⟨g, 0, none⟩ i n (prs (l.take i)) (by rw [prs_len, List.length_take, hll.out, Nat.min_eq_left (by omega)]) (fun j v hj => by
      have hB' : Blk w.drew g 38 cur := hB.out
      rw [Addr.add_lit, Nat.zero_add, hB'.cell]
      rw [← htk0, List.getElem?_take] at hj
      split at hj
      · simpa using hj
      · cases hj)
  obtain ⟨z, hz⟩ : ∃ z, z = Value.agg #[.int .u64 0, .int .u64 0] := ⟨_, rfl⟩
  have hzc : z.cells.size = 2 := by rw [hz]; rfl
  rw [← hz] at hz0
  have hkk : (n : Int) + 1 - (i : Int) = ((n + 1 - i : Nat) : Int) := by omega
  have hik : i + (n + 1 - i) = n + 1 := by omega
  obtain ⟨G, hG⟩ : ∃ G, G = grownCap w (n + 1) n 38 := ⟨_, rfl⟩
  obtain ⟨ROW, hROW⟩ : ∃ ROW : Array Value, ROW = (prs (l.take i)).toArray ++ Builtin.zeroCells z.cells (n + 1 - i) ++ Builtin.zeroCells z.cells (G - (n + 1)) := ⟨_, rfl⟩
  have hrz : ∀ ty, (Builtin.append_ #[22, 3] ty #[.slice (some ⟨g, 0, none⟩) i n, .int .i64 ((n : Int) + 1 - (i : Int))]).run Try.prog w =
      .ok (.slice (some ⟨w.heap.size, 0, none⟩) (n + 1) G) (w.drew.alloc (.cells ROW 38)) := fun ty => by
    have h := Lib.run_append_grow_zeros w 22 3 ty 38 i0 z .i64 .i64 Try.underlying22 Try.underlying3 hi0 hz0 (some ⟨g, 0, none⟩) i n (prs (l.take i)) hold (n + 1 - i) (by omega) (by omega) (by omega) (by omega) (by rw [hzb]; omega) (by rw [hzb, hik]; exact growslice_fits (by omega) (by omega))
    rw [hik] at h
    rw [hkk, hROW, hG]
    exact h
  have hGn : n + 1 ≤ G := by rw [hG]; exact grownCap_ge w _ _ _
  have hGm : G ≤ maxLen := by rw [hG]; exact grownCap_le_maxLen w (n + 1) n 38 (by unfold maxLen; omega)
  have hG63 : G ≤ 9223372036854775807 := by unfold maxLen at hGm; omega
  have hRs : ROW.size = G * 2 := by
    rw [hROW, Array.size_append, Array.size_append, size_zeroCells, size_zeroCells, hzc, List.size_toArray, prs_len, List.length_take, hll.out, Nat.min_eq_left (by omega)]
    omega
  have hRt : ROW.toList.take (i * 2) = prs (l.take i) := by
    have h5 : i * 2 = (prs (l.take i)).length := by rw [prs_len, List.length_take, hll.out, Nat.min_eq_left (by omega)]
    rw [hROW, h5]
    simp
  have hmid := Lib.hid (splice_grow ROW.toList l ⟨key, val⟩ n i G (by rw [Array.length_toList, hRs]) hRt hll.out hi hGn)
  have hlen1 : (splice ROW.toList (i * 2) (prC ⟨key, val⟩)).length = G * 2 := by
    rw [splice_len ROW.toList (i * 2) (prC ⟨key, val⟩) (by rw [prC_len, Array.length_toList, hRs]; omega), Array.length_toList, hRs]
  have hlen2 : (splice (splice ROW.toList (i * 2) (prC ⟨key, val⟩)) ((i + 1) * 2) (prs (l.drop i))).length = G * 2 := by
    rw [splice_len (splice ROW.toList (i * 2) (prC ⟨key, val⟩)) ((i + 1) * 2) (prs (l.drop i)) (by rw [hlen1, hdl]; omega), hlen1]
  have hS := Lib.hid (And.intro hRs (And.intro hGm (And.intro hdl (And.intro hlen1 hlen2))))
  obtain ⟨W1, hW1⟩ : ∃ W1, W1 = w.drew.alloc (.cells ROW 38) := ⟨_, rfl⟩
  rw [← hW1] at hrz
  have hN1 : Hid (Blk W1 w.heap.size 38 ROW) := Lib.hid (by rw [hW1]; exact Blk.new w.drew _ _)
  have hG1 : w.grownBy W1 (some g) := by
    have h := World.grownBy_alloc w.drew (.cells ROW 38) (some g)
    rw [hW1]
    exact ⟨h.os, h.tape, h.output, h.size, h.block⟩
  have hvb1 : Hid (Blk W1 vb 38 #[.int .u64 key, .int .u64 val]) := Lib.hid (hvb.out.grown hG1 (fun e => hne (by rw [e]; rfl)))
  have hc1 : Hid (∀ j u, (prs (l.drop i))[j]? = some u → W1.cell? ((⟨g, i * 2, none⟩ : Addr).add j) = some u) := Lib.hid (fun j u hu => by
    have := hCF.out j u hu
    rw [Addr.add_lit] at this ⊢
    rw [hW1, World.cell?_alloc_past (w := w.drew) _ g _ hgw]
    exact this)
  have j0 : (0 : Int) ≤ (i : Int) := by omega
  have j1 : (i : Int) < (n : Int) := by omega
  have j2 : (i : Int) ≤ (n : Int) := by omega
  have e1 : ((i : Int) == (n : Int)) = false := by simp; omega
  have e2 : decide ((n : Int) < (n : Int) + 1) = true := by simp; omega
  have e3 : ¬ (n = i) := by omega
  have e4 : ¬ (G = i + 1) := by omega
  have e7 : ¬ (G = i) := by omega
  have e6 : (i : Int) ≤ (n : Int) + 1 := by omega
  have e5 : (i : Int) + 1 ≤ (n : Int) + 1 := by omega
  have hw1 : IntKind.i64.wrap ((i : Int) + 1) = (i : Int) + 1 := by rw [IntKind.wrap_i64]; omega
  have hw2 : IntKind.i64.wrap ((n : Int) + 1 - (i : Int)) = (n : Int) + 1 - (i : Int) := by rw [IntKind.wrap_i64]; omega
  have htn : ((i : Int) + 1).toNat = i + 1 := by omega
  have hb1 : (0 : Int) ≤ (i : Int) + 1 := by omega
  clear hW1
  clear hcm hdl hlen1 hlen2 hkk hik hold hROW hG hz hzc hz0 htk htk0
  go_enter Try.func53, Try.ntmps53
  go_wp2_with (first
    | (at_builtin; refine Lib.wpList_append_run _ rfl _ _ _ _ rfl _ _ rfl rfl _ _ (hrz _) ?_)
    | (refine wpList_copyS rfl (.tmp 43) (.tmp 44) 22 22 rfl 38 2 Try.underlying22 sizePair2 w.heap.size (i * 2) (n + 1 - i) (G - i) ⟨vb, 0, none⟩ 1 1 rfl rfl ROW 38 (by exact hN1.out) (prC ⟨key, val⟩) (by show _ = min 1 (n + 1 - i) * 2; rw [prC_len, Nat.min_eq_left (by omega)]) (fun j u hu => by
        rw [Addr.add_lit, Nat.zero_add, hvb1.out.cell]
        simpa [prC] using hu) (by rw [hS.out.1, prC_len]; omega) (prC_one _) ?_
       intro w2 hB2 hg2))
  have hw2 : W1.grownBy w2 (some w.heap.size) := hg2
  have hg2 : Hid (w.grownBy w2 (some g)) := Lib.hid (grown_new hG1 hw2 (Nat.le_refl _))
  have hc2 : Hid (∀ j u, (prs (l.drop i))[j]? = some u → w2.cell? ((⟨g, i * 2, none⟩ : Addr).add j) = some u) := Lib.hid (fun j u hu => hw2.cell (hc1.out j u hu) (fun e => by
    have e := Option.some.inj e
    rw [Addr.add_lit] at e
    simp at e
    omega))
  have hB2 := Lib.hid hB2
  clear hw2
  go_region_law (first
    | (refine step_copyS rfl _ _ 22 22 rfl 38 2 Try.underlying22 sizePair2 w.heap.size ((i + 1) * 2) _ _ ⟨g, i * 2, none⟩ _ _ (by simp [Act.eval, Act.put]; exact ⟨rfl, rfl⟩) (by simp [Act.eval, Act.put]; exact ⟨rfl, rfl⟩) (splice ROW.toList (i * 2) (prC ⟨key, val⟩)).toArray 38 (by exact hB2.out) (prs (l.drop i)) (by rw [hS.out.2.2.1]; congr 1; simp only [Nat.min_def]; split <;> omega) (by exact hc2.out) (by rw [List.size_toArray, hS.out.2.2.1, hS.out.2.2.2.1]; omega) (prs_one _) ?_
       intro w3 hB3 hg3))
  go_wp2_with fail
  go_ret
  have hL : (insAt l i ⟨key, val⟩).length = n + 1 := by rw [insAt_len, hll.out]
  unfold RowEnd
  rw [hL]
  refine ⟨_, _, rfl, own_close hbase hB3 hGn hS.out.2.1 (by simpa using hS.out.2.2.2.2) (by simpa using hmid.out), grown_new (w := w2) hg2.out ⟨hg3.os, hg3.tape, hg3.output, hg3.size, hg3.block⟩ (Nat.le_refl _), fun q hq => .inr (Nat.le_of_eq (Option.some.inj hq))⟩

theorem insert_any (l : List Pr) (A : Option Addr) (n c vb base i : Nat) (key val : Int) (w : World) (hown : w.ownsRow base 38 2 (.slice A n c) n (prs l)) (hvb : Blk w vb 38 #[.int .u64 key, .int .u64 val])
    (hne : Value.ownBlock (.slice A n c) ≠ some vb) (hi : i ≤ n) (hn : n ≤ 900000) (hbase : base ≤ w.heap.size) :
    Calls Try.prog 53 #[.slice A n c, .int .i64 i, .slice (some ⟨vb, 0, none⟩) 1 1] w (RowEnd base (insAt l i ⟨key, val⟩) (.slice A n c) w) := by
  rcases Nat.lt_or_eq_of_le hi with h | rfl
  · have hc := own_cap hown
    rcases Nat.lt_or_eq_of_le hc with h2 | rfl
    · exact insert_mid l A n c vb base i key val w (Lib.hid hown) (Lib.hid hvb) hne h hn h2
    · exact insert_grow l A n vb base i key val w (Lib.hid hown) (Lib.hid hvb) hne h hn hbase
  · exact insert_end l A i c vb base key val w (Lib.hid hown) (Lib.hid hvb) hn hbase
end Go.Proofs.Ytfghkmhabpagkaa
