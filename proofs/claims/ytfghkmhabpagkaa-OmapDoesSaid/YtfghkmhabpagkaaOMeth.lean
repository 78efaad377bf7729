/- The program's map, walked: ends, DeleteRange, Pairs, Copy. -/
import Derived.Test.YtfghkmhabpagkaaOSet
namespace Go.Proofs.Ytfghkmhabpagkaa
open Go Go.RowKit
set_option linter.unusedVariables false

set_option maxHeartbeats 1000000 in
theorem ends_no (g : Nat) (lo hi : Int) (w : World) (h : hi < lo) :
    Calls Try.prog 35 #[.pointer (some ⟨g, 0, none⟩), .agg #[.int .u64 lo, .int .u64 hi]] w fun e w' => e = .returned (.tuple #[.int .i64 0, .int .i64 0, .int .i64 13]) ∧ Below w.heap.size w w' := by
  have hc := span_no lo hi (w.alloc (.cells #[.int .u64 lo, .int .u64 hi] 25)) h
  go_enter Try.func35, Try.ntmps35
  go_wp2_with fail
  refine hc.mono ?_
  rintro e w1 ⟨rfl, hb⟩
  have hb1 : Below w.heap.size w w1 := ((Below.refl _ _).alloc (Nat.le_refl _) _).trans (hb.mono (by simp))
  have hb1 := Lib.hid hb1
  clear hc hb
  go_wp2_with fail
  go_ret3
  exact ⟨rfl, hb1.out⟩
set_option maxHeartbeats 2000000 in
theorem ends_ok (l : List Pr) (g : Nat) (lo hi : Int) (w : World) (hq : Hid (IsQ w g l)) (hs : Hid (Srt Pr.key l)) (h : lo ≤ hi) :
    Calls Try.prog 35 #[.pointer (some ⟨g, 0, none⟩), .agg #[.int .u64 lo, .int .u64 hi]] w fun e w' => ∃ a T : Nat, e = .returned (.tuple #[.int .i64 a, .int .i64 T, .int .i64 0]) ∧ Ends l lo hi a T ∧ Below w.heap.size w w' := by
  have hc := span_ok lo hi (w.alloc (.cells #[.int .u64 lo, .int .u64 hi] 25)) h
  have hlen : Hid (l.length ≤ 1000000) := by
    obtain ⟨A, n, c, _, hr, hn, _⟩ := hq.out
    rw [← prs_n hr] at hn
    exact Lib.hid hn
  have hB0 : Blk (w.alloc (.cells #[.int .u64 lo, .int .u64 hi] 25)) w.heap.size 25 #[.int .u64 lo, .int .u64 hi] := Blk.new _ _ _
  go_enter Try.func35, Try.ntmps35
  go_wp2_with fail
  refine hc.mono ?_
  rintro e w1 ⟨rfl, hb⟩
  have hb1 : Below w.heap.size w w1 := ((Below.refl _ _).alloc (Nat.le_refl _) _).trans (hb.mono (by simp))
  have hB1 : Blk w1 w.heap.size 25 #[.int .u64 lo, .int .u64 hi] := hB0.below hb (by simp)
  have hs0 := hB1.cell 0
  have hs1 := hB1.cell 1
  simp at hs0 hs1
  have hc1 := findO_any l g lo w1 (Lib.hid (hq.out.below hb1)) hs
  have hb1 := Lib.hid hb1
  have hB1 := Lib.hid hB1
  clear hc hb hB0
  go_wp2_with fail
  refine hc1.mono ?_
  rintro e w2 ⟨a, rfl, ha, hb2⟩
  have hb02 := hb1.out.trans (hb2.mono hb1.out.size)
  have hB2 := hB1.out.below hb2 hB1.out.lt
  have hs1 := hB2.cell 1
  simp at hs1
  have hc2 := findO_any l g hi w2 (Lib.hid (hq.out.below hb02)) hs
  have hb02 := Lib.hid hb02
  have ha := Lib.hid ha
  clear hc1 hb2 hs0 hB2 hB1 hb1
  go_wp2_with fail
  refine hc2.mono ?_
  rintro e w3 ⟨b, rfl, hb, hb3⟩
  have hb03 := Lib.hid (hb02.out.trans (hb3.mono hb02.out.size))
  have hE := Lib.hid (ends_of hs.out h ha.out hb)
  have hbl := hb.1
  have hbn : b ≤ 1000000 := by have := hlen.out; omega
  clear hc2 hb3 hb hb02 hs1 hbl
  rcases hh : (look Pr.key l hi).isSome
  · have hE2 : Hid (Ends l lo hi a b) := Lib.hid (by have := hE.out; rw [hh] at this; exact this)
    clear hE hh
    go_wp2_with fail
    go_ret3
    exact ⟨a, b, rfl, hE2.out, hb03.out⟩
  · have hE2 : Hid (Ends l lo hi a (b + 1)) := Lib.hid (by have := hE.out; rw [hh] at this; exact this)
    clear hE hh
    go_wp2_with fail
    go_ret3
    exact ⟨a, b + 1, by push_cast; rfl, hE2.out, hb03.out⟩

theorem inR_len_of {l : List Pr} {lo hi : Int} {a T : Nat} (h : Ends l lo hi a T) : (inR lo hi l).length = T - a := by
  rw [← h.2.2.1, List.length_take, List.length_drop]
  have := h.1
  have := h.2.1
  omega
set_option maxHeartbeats 2000000 in
theorem delRO_ok (l : List Pr) (base g : Nat) (v : Value) (lo hi : Int) (w : World) (ho : Hid (IsO w base g v l)) (h : lo ≤ hi) :
    Calls Try.prog 27 #[.pointer (some ⟨g, 0, none⟩), .agg #[.int .u64 lo, .int .u64 hi]] w fun e w' => e = .returned (.tuple #[.int .i64 (inR lo hi l).length, .int .i64 0]) ∧ OEnd base g v (outR lo hi l) w w' := by
  have hb0 : Below w.heap.size w (w.alloc (.cells #[.int .u64 lo, .int .u64 hi] 25)) := (Below.refl _ _).alloc (Nat.le_refl _) _
  have hc := ends_ok l g lo hi (w.alloc (.cells #[.int .u64 lo, .int .u64 hi] 25)) (Lib.hid (ho.out.below hb0).q) (Lib.hid ho.out.srt) h
  have hvlt : Hid (∀ q, v.ownBlock = some q → q < w.heap.size) := Lib.hid (fun q hq => (ho.out.own.lt q hq).2)
  go_enter Try.func27, Try.ntmps27
  go_wp2_with fail
  refine hc.mono ?_
  rintro e w1 ⟨a, T, rfl, hE, hb⟩
  have hb1 : Below w.heap.size w w1 := hb0.trans (hb.mono (by simp))
  have ho1 := ho.out.below hb1
  obtain ⟨A, c, rfl, hnc, hcm⟩ := own_form ho1.own
  have hg : w1.cell? ⟨g, 0, none⟩ = some (.slice A l.length c) := by simpa using ho1.blk.cell 0
  have hdel := sldel_any l A l.length c base a T w1 ho1.own hE.1 hE.2.1
  have hin := inR_len_of hE
  rw [hE.2.2.2] at hdel
  have haT := hE.1
  have hTl : T ≤ 900000 := by have := hE.2.1; have := ho1.len; omega
  have hH := Lib.hid (And.intro ho1 (And.intro hb1 (And.intro hin (srt_out (lo := lo) (hi := hi) ho1.srt))))
  obtain ⟨n, hn⟩ : ∃ n, n = l.length := ⟨_, rfl⟩
  have hN := Lib.hid hn
  rw [← hn] at hg hdel
  clear hc ho ho1 hb hb1 hin hE hnc hcm hn hb0
  go_wp2_with fail
  refine hdel.mono ?_
  rintro e w3 ⟨A', c', rfl, hown3, hg3, hat3⟩
  rw [hN.out] at hg3 hat3
  obtain ⟨ho1, hb1, hin, hso⟩ := hH.out
  have hR := rewrite_map (w := w) (w1 := w1) ho1 hb1 hb1.size hown3 hg3 hat3 hso (by have : (outR lo hi l).length ≤ l.length := List.length_filter_le _ _; have := ho1.len; omega) hvlt.out
  have hc3 : w3.cell? ⟨g, 0, none⟩ = some (.slice A l.length c) := by simpa using hR.2.cell 0
  have hf3 := hR.2.frozen 0
  have hR := Lib.hid hR.1
  have hres : Hid ((T : Int) - (a : Int) = ((inR lo hi l).length : Int)) := Lib.hid (by rw [hin]; omega)
  clear hown3 hg3 hat3 ho1 hb1 hso hH hdel hg hin
  go_wp2_with fail
  go_ret2
  exact ⟨by rw [← hres.out]; rfl, hR.out⟩

set_option maxHeartbeats 1000000 in
theorem pairsO_any (l : List Pr) (g : Nat) (w : World) (hq : Hid (IsQ w g l)) :
    Calls Try.prog 13 #[.pointer (some ⟨g, 0, none⟩)] w (CloneEnd l l.length w) := by
  obtain ⟨A, n, c, hB, hr, hn, hnc, hc⟩ := hq.out
  obtain rfl := prs_n hr
  have hg : w.cell? ⟨g, 0, none⟩ = some (.slice A l.length c) := by simpa using hB.cell 0
  have hcl := clone_any l A l.length c w (Lib.hid hr) hn
  clear hB hr hq
  go_enter Try.func13, Try.ntmps13
  go_wp2_with fail
  refine hcl.mono ?_
  rintro e w1 ⟨A', c', rfl, h⟩
  have h := Lib.hid h
  go_wp2_with fail
  go_ret
  exact ⟨A', c', rfl, h.out⟩
set_option maxHeartbeats 1000000 in
theorem copyO_any (l : List Pr) (g : Nat) (w : World) (hq : Hid (IsQ w g l)) (hs : Hid (Srt Pr.key l)) (hl : l.length ≤ 900000) :
    Calls Try.prog 25 #[.pointer (some ⟨g, 0, none⟩)] w fun e w' => ∃ g' v', e = .returned (.pointer (some ⟨g', 0, none⟩)) ∧ IsO w' w.heap.size g' v' l ∧ Below w.heap.size w w' := by
  obtain ⟨A, n, c, hB, hr, hn, hnc, hc⟩ := hq.out
  obtain rfl := prs_n hr
  have hg : w.cell? ⟨g, 0, none⟩ = some (.slice A l.length c) := by simpa using hB.cell 0
  have hcl := clone_any l A l.length c w (Lib.hid hr) hn
  clear hB hr hq
  go_enter Try.func25, Try.ntmps25
  go_wp2_with fail
  refine hcl.mono ?_
  rintro e w1 ⟨A', c', rfl, hown, hb⟩
  have h1 : Hid (IsO (w1.alloc (.cells #[.slice A' l.length c'] 77)) w.heap.size w1.heap.size (.slice A' l.length c') l) :=
    Lib.hid ⟨hb.size, Blk.new _ _ _, own_below hown ((Below.refl _ _).alloc (Nat.le_refl _) _), hs.out, hl⟩
  have h2 : Hid (Below w.heap.size w (w1.alloc (.cells #[.slice A' l.length c'] 77))) := Lib.hid (hb.alloc hb.size _)
  clear hown hb
  go_wp2_with fail
  go_ret
  exact ⟨_, _, rfl, h1.out, h2.out⟩
end Go.Proofs.Ytfghkmhabpagkaa
