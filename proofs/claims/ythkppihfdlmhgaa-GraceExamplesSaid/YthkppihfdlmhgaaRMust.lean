/- leapfrogref21.Must walked. -/
import Derived.Test.YthkppihfdlmhgaaRefOv
import Derived.Test.YthkppihfdlmhgaaMust
import Derived.StillTailTactics
namespace Go.Proofs.Ythkppihfdlmhgaa
open Go Go.RowKit
set_option linter.unusedVariables false

set_option maxRecDepth 100000 in
set_option maxHeartbeats 4000000 in
theorem rmust_any (l : List Ev) (k : Int) (A : Option Addr) (n c : Nat) (w : World) (hr : Hid (Reads w w.heap.size 4 A n (evs l))) (hn : n ≤ 65536) (hw : WfE l) :
    Calls Try.prog 30 #[.int .i64 k, .slice A n c] w (SecRes 43 (muL l k) (muEr l k) w) := by
  have hs := rwaits_at l A n c w hr hn
  have hs2 : Hid (∀ W : World, Hid (Reads W W.heap.size 4 A n (evs l)) → Calls Try.prog 23 #[.slice A n c] W (SecRes 43 (secL 1 l) (errL l) W)) := fun W h => rsections_at l A n c W h hn
  have hval := secL_val (q := 1) hw
  have hval3 := secL_val (q := 3) hw
  have hlen := secL_len' 1 l
  have hlen3 := secL_len' 3 l
  have hll := Lib.hid (evs_n hr.out)
  rw [hll.out] at hlen hlen3
  unfold SecRes
  unfold SecRes at hs hs2
  rcases errL_or l with ⟨hf, he⟩ | ⟨hf, he⟩
  · have z1 : secL 1 l = secsK 1 l := if_pos hf
    have z3 : secL 3 l = secsK 3 l := if_pos hf
    rw [he, z3] at hs
    rw [he, z1] at hs2
    rw [z1] at hlen hval
    rw [z3] at hlen3 hval3
    clear he z1 z3
    by_cases hk : 0 ≤ k
    · obtain ⟨j, rfl⟩ := Int.eq_ofNat_of_zero_le hk
      have d1 : ¬ ((j : Int) < 0) := by omega
      cases hg : (secsK 3 l)[j]? with
      | none =>
        have hge : (secsK 3 l).length ≤ j := List.getElem?_eq_none_iff.1 hg
        rw [muL_none hg, muEr_none hf hg]
        have hgh := Lib.hid hge
        clear hg hge
        go_enter Try.func30, Try.ntmps30
        go_wp2_with fail
        refine hs.mono ?_
        rintro e w1 ⟨A1, n1, c1, rfl, e1, ho, hb⟩
        have d2 : (n1 : Int) ≤ (j : Int) := by have := hgh.out; omega
        have b1 := Lib.hid hb
        clear hs hs2 hr e1 ho hb
        go_wp2_with fail
        go_ret2
        exact ⟨none, 0, 0, rfl, rfl, World.ownsRow_nil _ _ _ _, b1.out⟩
      | some wt4 =>
        have hlt : j < (secsK 3 l).length := (List.getElem?_eq_some_iff.1 hg).1
        have hv4 := hval3 _ (List.mem_of_getElem? hg)
        obtain ⟨wt, wv, wn, wx⟩ := wt4
        rw [muL_some hf hg, muEr_some hf hg]
        dsimp only at hv4
        have hgh := Lib.hid hg
        have hlh := Lib.hid hlt
        clear hg hlt hval3
        go_enter Try.func30, Try.ntmps30
        go_wp2_with fail
        refine hs.mono ?_
        rintro e w1 ⟨A1, n1, c1, rfl, e1, ho, hb⟩
        have b1 := Lib.hid hb
        have hr1 := reads_on hr hb
        have r1 := (own_reads ho).1
        have d2 : ¬ ((n1 : Int) ≤ (j : Int)) := by have := hlh.out; omega
        have d3 : (j : Int) < (n1 : Int) := by omega
        have hjn : j < n1 := by omega
        have e1h := Lib.hid e1
        clear hs hr e1 ho hb
        go_wp2_with fail
        refine (hs2.out w1 hr1).mono ?_
        rintro e w2 ⟨A2, n2, c2, rfl, e2, ho, hb⟩
        have b2 := below_on b1 hb
        have hr2 := reads_on r1 hb
        have r2 := (own_reads ho).1
        have hn2 : n2 ≤ 65536 := by omega
        obtain ⟨b, o, rfl, hbB⟩ := reads_head hr2.out (show 0 < n1 by omega) (by decide)
        obtain ⟨x4, hx0, c0', c1', c2', c3'⟩ := sec_at hr2.out hjn
        obtain rfl : ⟨wt, wv, wn, wx⟩ = x4 := Option.some.inj (hgh.out.symm.trans hx0)
        dsimp only at c0' c1' c2' c3'
        have hvh := Lib.hid (fun x hx => (hval x hx).1 : ∀ x ∈ secsK 1 l, 0 ≤ x.val)
        clear hs2 hr1 e2 ho hb hx0 hgh hlh c0' c3' r1 b1 hr2 hval
        go_wp2_with fail
        go_still_tail 11, (by kernel_rfl)
        change wpList _ _ _ _ _ w2.drew
        go_wp2_with fail
        refine (rdue_any (secsK 1 l) A2 n2 c2 wn wv w2.drew (Lib.hid (r2.out.drewN 1)) hn2 hv4.1 hv4.2 hvh.out).mono ?_
        rintro e w3 ⟨A3, n3, c3, rfl, hn3, hown, hb⟩
        have b3 := below_on (Lib.hid b2.out.drew) hb
        have hown2 := Lib.hid (own_base hown (show w.heap.size ≤ w2.drew.heap.size from b2.out.size))
        have e3 := Lib.hid hn3
        clear hn3 hown hb b2 r2
        go_wp2_with fail
        go_ret2
        exact ⟨A3, n3, c3, rfl, e3.out, hown2.out, b3.out⟩
    · rw [muL_neg hk, muEr_neg hf hk]
      have d1 : k < 0 := by omega
      go_enter Try.func30, Try.ntmps30
      go_wp2_with fail
      refine hs.mono ?_
      rintro e w1 ⟨A1, n1, c1, rfl, e1, ho, hb⟩
      have b1 := Lib.hid hb
      clear hs hs2 hr e1 ho hb
      go_wp2_with fail
      go_ret2
      exact ⟨none, 0, 0, rfl, rfl, World.ownsRow_nil _ _ _ _, b1.out⟩
  · rw [muL_bad hf, muEr_bad hf]
    rw [he] at hs
    go_enter Try.func30, Try.ntmps30
    go_wp2_with fail
    refine hs.mono ?_
    rintro e w1 ⟨A1, n1, c1, rfl, e1, ho, hb⟩
    have b1 := Lib.hid hb
    clear hs hs2 hr e1 ho hb
    go_wp2_with fail
    go_ret2
    exact ⟨none, 0, 0, rfl, rfl, World.ownsRow_nil _ _ _ _, b1.out⟩
end Go.Proofs.Ythkppihfdlmhgaa
