/- grace.Must walked (printed by gen_must.py). -/
import Derived.Test.YthkppihfdlmhgaaOver
import Derived.Deep.RegionHeld3
import Derived.Deep.DrawnRows
namespace Go.Proofs.Ythkppihfdlmhgaa
open Go Go.RowKit
set_option linter.unusedVariables false

theorem muL_some {l : List Ev} {j : Nat} {w : Sec} (hf : FineTo l l.length) (hg : (secsK 3 l)[j]? = some w) : muL l (j : Int) = (secsK 1 l).filter (dueB w.enter w.val) := by
  unfold muL
  rw [if_pos ⟨hf, by omega⟩, Int.toNat_natCast, hg]
theorem muL_none {l : List Ev} {j : Nat} (hg : (secsK 3 l)[j]? = none) : muL l (j : Int) = [] := by
  unfold muL
  rw [Int.toNat_natCast, hg]
  split <;> rfl
theorem muL_neg {l : List Ev} {k : Int} (hk : ¬ 0 ≤ k) : muL l k = [] := by
  unfold muL
  rw [if_neg (fun h => hk h.2)]
theorem muL_bad {l : List Ev} {k : Int} (hf : ¬ FineTo l l.length) : muL l k = [] := by
  unfold muL
  rw [if_neg (fun h => hf h.1)]
theorem muEr_some {l : List Ev} {j : Nat} {w : Sec} (hf : FineTo l l.length) (hg : (secsK 3 l)[j]? = some w) : muEr l (j : Int) = 0 := by
  unfold muEr
  have := (List.getElem?_eq_some_iff.1 hg).1
  rw [if_pos hf, if_pos (by omega)]
theorem muEr_none {l : List Ev} {j : Nat} (hf : FineTo l l.length) (hg : (secsK 3 l)[j]? = none) : muEr l (j : Int) = 3 := by
  unfold muEr
  have := List.getElem?_eq_none_iff.1 hg
  rw [if_pos hf, if_neg (by omega)]
theorem muEr_neg {l : List Ev} {k : Int} (hf : FineTo l l.length) (hk : ¬ 0 ≤ k) : muEr l k = 3 := by
  unfold muEr
  rw [if_pos hf, if_neg (by omega)]
theorem muEr_bad {l : List Ev} {k : Int} (hf : ¬ FineTo l l.length) : muEr l k = 15 := by
  unfold muEr
  rw [if_neg hf]

set_option maxRecDepth 100000 in
set_option maxHeartbeats 4000000 in
theorem gmust_any (l : List Ev) (k : Int) (A : Option Addr) (n c : Nat) (w : World) (hr : Hid (Reads w w.heap.size 4 A n (evs l))) (hn : n ≤ 65536) (hw : WfE l) :
    Calls Try.prog 26 #[.int .i64 k, .slice A n c] w (SecRes 43 (muL l k) (muEr l k) w) := by
  have hs := both_any l A n c w hr hn
  have hval := secL_val (q := 1) hw
  have hval3 := secL_val (q := 3) hw
  have hlen := secL_len' 1 l
  have hll := Lib.hid (evs_n hr.out)
  rw [hll.out] at hlen
  unfold SecRes
  unfold BothRes at hs
  rcases errL_or l with ⟨hf, he⟩ | ⟨hf, he⟩
  · have z1 : secL 1 l = secsK 1 l := if_pos hf
    have z3 : secL 3 l = secsK 3 l := if_pos hf
    rw [he, z1, z3] at hs
    rw [z1] at hlen hval
    rw [z3] at hval3
    clear he z1 z3
    by_cases hk : 0 ≤ k
    · obtain ⟨j, rfl⟩ := Int.eq_ofNat_of_zero_le hk
      have d1 : ¬ ((j : Int) < 0) := by omega
      cases hg : (secsK 3 l)[j]? with
      | none =>
        have hge : (secsK 3 l).length ≤ j := List.getElem?_eq_none_iff.1 hg
        rw [muL_none hg, muEr_none hf hg]
        have hgh := Lib.hid hge
        clear hg hge
        go_enter Try.func26, Try.ntmps26
        go_wp2_with fail
        refine hs.mono ?_
        rintro e w1 ⟨A1, n1, c1, A2, n2, c2, rfl, e1, e2, r1, r2, hb⟩
        have d2 : (n2 : Int) ≤ (j : Int) := by have := hgh.out; have := e2.out; omega
        clear hs hr e1 e2 r1 r2
        go_wp2_with fail
        go_ret2
        exact ⟨none, 0, 0, rfl, rfl, World.ownsRow_nil _ _ _ _, hb⟩
      | some wt4 =>
        have hlt : j < (secsK 3 l).length := (List.getElem?_eq_some_iff.1 hg).1
        have hv4 := hval3 _ (List.mem_of_getElem? hg)
        obtain ⟨wt, wv, wn, wx⟩ := wt4
        rw [muL_some hf hg, muEr_some hf hg]
        dsimp only at hv4
        have hgh := Lib.hid hg
        have hlh := Lib.hid hlt
        clear hg hlt hval3
        go_enter Try.func26, Try.ntmps26
        go_wp2_with fail
        refine hs.mono ?_
        rintro e w1 ⟨A1, n1, c1, A2, n2, c2, rfl, e1, e2, r1, r2, hb⟩
        have d2 : ¬ ((n2 : Int) ≤ (j : Int)) := by have := hlh.out; have := e2.out; omega
        have d3 : (j : Int) < (n2 : Int) := by omega
        have hn1 : n1 ≤ 65536 := by have := e1.out; omega
        have b1 := Lib.hid hb
        obtain ⟨b, o, rfl, hbB⟩ := reads_head r2.out (show 0 < n2 by omega) (by decide)
        obtain ⟨x4, hx0, c0', c1', c2', c3'⟩ := sec_at r2.out (show j < n2 by omega)
        obtain rfl : ⟨wt, wv, wn, wx⟩ = x4 := Option.some.inj (hgh.out.symm.trans hx0)
        dsimp only at c0' c1' c2' c3'
        clear hs hr e1 e2 hb hx0 hgh hlh c0' c3' r2
        go_wp2_with fail
        have hn1h := Lib.hid hn1
        have hvh := Lib.hid (fun x hx => (hval x hx).1 : ∀ x ∈ secsK 1 l, 0 ≤ x.val)
        clear hval
        go_region_held3 (fun w' => w'.cell? ⟨b, o + j * 4 + 2, none⟩ = some (.int .i64 wn) ∧ w'.cell? ⟨b, o + j * 4 + 1, none⟩ = some (.int .u64 wv))
          (first
            | exact ⟨c2', c1'⟩
            | exact ⟨p2, p1⟩
            | exact ⟨q2, q1⟩)
          ((first
            | (go_at_call 22; (with_reducible refine (must_any wn wv _).mono ?_); rintro e w2 ⟨rfl, hw2⟩; have bt := two_boxes w1.drew 3 (.int .i64 wn) 23 (.int .u64 wv); rw [← hw2] at bt; obtain ⟨bp, bq, bsz, bb⟩ := bt; have bb2 : Below w1.heap.size w1 w2 := ((Below.refl _ w1).drew).trans bb; have r3 := reads_on r1 bb2; have b2 := below_on b1 bb2; have bsz2 : w2.heap.size = w1.heap.size + 2 := bsz; have p2 := (bb2.cell (p := ⟨b, o + j * 4 + 2, none⟩) hbB).trans c2'; have p1 := (bb2.cell (p := ⟨b, o + j * 4 + 1, none⟩) hbB).trans c1'; clear hw2)
            | (go_at_call 21; refine (those_any (secsK 1 l) A1 n1 c1 wn wv (w1.heap.size) (w1.heap.size + 1) w2 r3 hn1h.out hv4.1 hv4.2 hvh.out bp bq (by omega) (by omega)).mono ?_; rintro e w3 ⟨A3, n3, c3, rfl, hn3, hown, hb⟩; replace hn3 := Lib.hid hn3; have q2 := (hb.cell (p := ⟨b, o + j * 4 + 2, none⟩) (by show b < w2.heap.size; omega)).trans p2; have q1 := (hb.cell (p := ⟨b, o + j * 4 + 1, none⟩) (by show b < w2.heap.size; omega)).trans p1)))
        have b3 := below_on b2 hb
        have hown2 := Lib.hid (own_base hown (show w.heap.size ≤ w2.heap.size from b2.out.size))
        have e3 := hn3
        clear hn3 hown hb b2 r3 q1 q2 p1 p2
        go_wp2_with fail
        go_ret2
        exact ⟨A3, n3, c3, rfl, e3.out, hown2.out, b3.out⟩
    · rw [muL_neg hk, muEr_neg hf hk]
      have d1 : k < 0 := by omega
      go_enter Try.func26, Try.ntmps26
      go_wp2_with fail
      refine hs.mono ?_
      rintro e w1 ⟨A1, n1, c1, A2, n2, c2, rfl, e1, e2, r1, r2, hb⟩
      clear hs hr e1 e2 r1 r2
      go_wp2_with fail
      go_ret2
      exact ⟨none, 0, 0, rfl, rfl, World.ownsRow_nil _ _ _ _, hb⟩
  · rw [muL_bad hf, muEr_bad hf]
    rw [he] at hs
    go_enter Try.func26, Try.ntmps26
    go_wp2_with fail
    refine hs.mono ?_
    rintro e w1 ⟨A1, n1, c1, A2, n2, c2, rfl, e1, e2, r1, r2, hb⟩
    clear hs hr e1 e2 r1 r2
    go_wp2_with fail
    go_ret2
    exact ⟨none, 0, 0, rfl, rfl, World.ownsRow_nil _ _ _ _, hb⟩
end Go.Proofs.Ythkppihfdlmhgaa
