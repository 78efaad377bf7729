/- leapfrogref21.Least walked (printed by gen_rleast.py). -/
import Derived.Test.YthkppihfdlmhgaaRefOv
import Derived.Test.YthkppihfdlmhgaaLeast
import Derived.StillTailTactics
namespace Go.Proofs.Ythkppihfdlmhgaa
open Go Go.RowKit
set_option linter.unusedVariables false

theorem max3_step (a : Int) (s : Sec) (h0 : 0 ≤ a) (h1 : ¬ s.exit < 0) (h2 : s.exit ≤ 9223372036854775807) :
    (if IntKind.i64.wrap (s.exit + 1) > (if s.exit > a then s.exit else a) then IntKind.i64.wrap (s.exit + 1) else (if s.exit > a then s.exit else a)) = leaF a s := by
  unfold leaF sucI
  rw [if_neg (show ¬ a < 0 by omega), if_neg h1, Int.max_def]
  by_cases hm : s.exit = 9223372036854775807
  · rw [if_pos hm, hm, show IntKind.i64.wrap (9223372036854775807 + 1) = -9223372036854775808 by decide]
    by_cases hx : (9223372036854775807 : Int) > a
    · rw [if_pos hx, if_neg (by omega), if_pos (by omega)]
    · rw [if_neg hx, if_neg (by omega)]
      split <;> omega
  · rw [if_neg hm, wrap_i64 (by omega) (by omega)]
    by_cases hx : s.exit > a
    · rw [if_pos hx, if_pos (by omega), if_pos (by omega)]
    · rw [if_neg hx]
      split <;> split <;> omega
theorem leaF_stop {D : List Sec} {j : Nat} (a : Int) (h : (D.take j).foldl leaF a < 0) : D.foldl leaF a = (D.take j).foldl leaF a := by
  have h1 : D.foldl leaF a = (D.drop j).foldl leaF ((D.take j).foldl leaF a) := by
    conv => lhs; rw [← List.take_append_drop j D]
    rw [List.foldl_append]
  rw [h1]
  exact leaF_neg h _

set_option maxRecDepth 100000 in
set_option maxHeartbeats 8000000 in
theorem rleast_any (l : List Ev) (A : Option Addr) (n c : Nat) (w : World) (hr : Hid (Reads w w.heap.size 4 A n (evs l))) (hn : n ≤ 65536) (hw : Hid (WfE l)) :
    Calls Try.prog 29 #[.slice A n c] w (NumRes (leaL l) (errL l) w) := by
  have hs := rwaits_at l A n c w hr hn
  have hs2 : Hid (∀ W : World, Hid (Reads W W.heap.size 4 A n (evs l)) → Calls Try.prog 23 #[.slice A n c] W (SecRes 43 (secL 1 l) (errL l) W)) := fun W h => rsections_at l A n c W h hn
  have hval := Lib.hid (secL_val (q := 1) hw.out)
  have hval3 := Lib.hid (secL_val (q := 3) hw.out)
  have hex := Lib.hid (secsK_le (q := 1) (fun p hp => (hw.out p hp).1))
  have hlen := secL_len' 1 l
  have hlen3 := secL_len' 3 l
  have hll := Lib.hid (evs_n hr.out)
  rw [hll.out] at hlen hlen3
  obtain ⟨i0, hi0, hz0, hz1, hz2⟩ := info_parts infoI
  unfold NumRes leaL
  unfold SecRes at hs hs2
  rcases errL_or l with ⟨hf, he⟩ | ⟨hf, he⟩
  · have z1 : secL 1 l = secsK 1 l := if_pos hf
    have z3 : secL 3 l = secsK 3 l := if_pos hf
    have hen := Lib.hid (fun s hs => (src_facts hf (secsK_src (List.getElem?_of_mem hs).choose_spec).choose_spec).1 : ∀ s ∈ secsK 3 l, 0 ≤ s.enter)
    rw [if_pos hf, he]
    rw [he, z3] at hs
    rw [he, z1] at hs2
    rw [z1] at hlen hval
    rw [z3] at hlen3 hval3
    clear he z1 z3 hf
    generalize secsK 1 l = S at hs2 hval hex hlen ⊢
    generalize secsK 3 l = W at hs hval3 hlen3 hen ⊢
    go_enter Try.func29, Try.ntmps29
    go_wp2_with fail
    refine hs.mono ?_
    rintro e w1 ⟨A1, n1, c1, rfl, e1, ho, hb⟩
    have b1 := Lib.hid hb
    have hr1 := reads_on hr hb
    have r1 := (own_reads ho).1
    have hn1 : n1 ≤ 65536 := by omega
    have e1h := Lib.hid e1
    clear hs hr e1 ho hb hlen3
    go_wp2_with fail
    refine (hs2.out w1 hr1).mono ?_
    rintro e w2 ⟨A2, n2, c2, rfl, e2, ho, hb⟩
    have b2 := below_on b1 hb
    have r1b := reads_on r1 hb
    have r2 := (own_reads ho).1
    have hn2 : n2 ≤ 65536 := by omega
    have hM := Lib.hid b2.out.size
    have e2h := Lib.hid e2
    clear hs2 hr1 b1 r1 e2 ho hb hlen
    go_wp2_with fail
    go_loopg [8, 9] n1 (fun g v i wr => ∃ (k : Nat) (os : List Int), k + g = n1 ∧ i = .int .i64 k ∧ os.length ≤ k ∧ Hid (os = (W.take k).map (leaW S)) ∧ Hid (wr.ownsRow w2.heap.size 3 1 v os.length (is_ os)) ∧ Hid (Below w2.heap.size w2 wr))
    case atStart => exact ⟨0, [], by omega, rfl, Nat.le_refl _, by unfold Hid; simp, World.ownsRow_nil _ _ _ _, Below.refl _ _⟩
    case round =>
      obtain ⟨k, os, hk, rfl, hol, hos, hown, hbel⟩ := hrel
      cases gk with
      | zero =>
        obtain rfl : k = n1 := by omega
        have hz : Hid (os = W.map (leaW S)) := by
          unfold Hid
          rw [hos.out, List.take_of_length_le (by rw [← e1h.out]; exact Nat.le_refl _)]
        go_wp2_with fail
        go_ret2
        obtain ⟨A', c', rfl, _⟩ := own_form hown.out
        exact ⟨A', _, c', rfl, by rw [← hz.out]; exact rfl, by rw [← hz.out]; exact own_base hown.out hM.out, (below_on b2 hbel.out).out⟩
      | succ g =>
        obtain ⟨b, o, rfl, hbB⟩ := reads_head r1b.out (by omega) (by decide)
        have hsz := Lib.hid hbel.out.size
        obtain ⟨⟨wt, wv, wn, wx⟩, hw4, c0, c1', c2', c3⟩ := sec_at (r1b.out.below hbel.out) (show k < n1 by omega)
        have hvv := Lib.hid (hval3.out _ (List.mem_of_getElem? hw4))
        have hwk := Lib.hid hw4
        have hbw : b < wr.heap.size := by have := hbel.out.size; omega
        clear hw4 c0 c3
        dsimp only at c1' c2' hvv
        have k0 : (0 : Int) ≤ (k : Int) := by omega
        have k1 : (k : Int) < (n1 : Int) := by omega
        have r2' : Hid (Reads wr.drew wr.drew.heap.size 4 A2 n2 (secs S)) := reads_on r2 hbel.out.drew
        go_wp2_with fail
        go_still_tail 11, (by kernel_rfl)
        change wpList _ _ _ _ _ wr.drew
        go_wp2_with fail
        refine (rdue_any S A2 n2 c2 wn wv wr.drew r2' hn2 hvv.out.1 hvv.out.2 (fun x hx => (hval.out x hx).1)).mono ?_
        rintro e w4 ⟨A3, n3, c3, rfl, hn3, hownD, hb⟩
        have e3 := Lib.hid hn3
        have r3 := (own_reads hownD).1
        have hbel3 : Hid (Below w2.heap.size w2 w4) := below_on (Lib.hid hbel.out.drew) hb
        have hown3 : Hid (w4.ownsRow w2.heap.size 3 1 u8 os.length (is_ os)) := own_below hown.out ((Below.refl _ wr).drew.trans hb)
        have hexD : Hid (∀ s ∈ S.filter (dueB wn wv), s.exit ≤ 9223372036854775807) := fun s hs => hex.out s (List.mem_filter.1 hs).1
        have hn3' : n3 ≤ 65536 := by have := List.length_filter_le (dueB wn wv) S; have := e2h.out; omega
        obtain ⟨D, hDD⟩ : ∃ D, Hid (S.filter (dueB wn wv) = D) := ⟨_, rfl⟩
        rw [hDD.out] at e3 r3 hexD
        clear hn3 hownD hb r2' hown hbel hsz hbw hbB c1' c2'
        go_wp2_with fail
        go_loopg [10, 12] n3 (fun gg v i wi => ∃ (j : Nat) (av : Int), j + gg = n3 ∧ v = .int .i64 av ∧ i = .int .i64 j ∧ Hid (av = (D.take j).foldl leaF wn) ∧ Hid (Below w4.heap.size w4 wi))
        case atStart => exact ⟨0, wn, by omega, rfl, rfl, rfl, Below.refl _ _⟩
        case round =>
          obtain ⟨j, av, hj, rfl, rfl, hav, hbi⟩ := hrel
          have hbelI : Hid (Below w2.heap.size w2 wr) := hbel3.out.trans (hbi.out.mono hbel3.out.size)
          have hownI : Hid (wr.ownsRow w2.heap.size 3 1 u8 os.length (is_ os)) := own_below hown3.out hbi.out
          have hszI := Lib.hid hbelI.out.size
          cases gk with
          | zero =>
            obtain rfl : j = n3 := by omega
            have hfin : Hid (leaW S ⟨wt, wv, wn, wx⟩ = av) := by
              unfold Hid leaW
              dsimp only
              rw [hDD.out, hav.out, List.take_of_length_le (by rw [← e3.out]; exact Nat.le_refl _)]
            clear hav
            have hS2 := Lib.hid (show os ++ [av] = (W.take (k + 1)).map (leaW S) from by rw [map_take _ hwk.out, hos.out, hfin.out])
            clear hwk hos
            go_wp2_with (at_builtin; refine wpList_append_any _ rfl (.tmp 78) (.tmp 80) 53 rfl (w2.heap.size) 3 i0 _ 1 8 Try.underlying53 hi0 hz0 hz1 hz2 rfl (by decide) u8 os.length (is_ os) rfl (hownI.out.alloc _) (wr.heap.size + 1) (some ⟨wr.heap.size, 0, none⟩) 1 1 [(Value.int .i64 av)] rfl ((reads_at wr _ [(Value.int .i64 av)] 1 _ rfl rfl).more (by simp)) (i_one _) (by unfold maxLen; omega) (by omega) (by have := hszI.out; simp; omega) ?_; intro v1 w3 hown1 hg1 hat1)
            have hown3 : Hid (w3.ownsRow (w2.heap.size) 3 1 v1 (os ++ [(av : Int)]).length (is_ (os ++ [(av : Int)]))) := by
              unfold Hid
              rw [List.length_append]
              exact own_snocI hown1
            have hbel4 : Hid (Below w2.heap.size w2 w3) := (hbelI.out.alloc hszI.out _).grown hg1 (by have := hszI.out; simp; omega) (fun q hq => (hownI.out.lt q hq).1)
            clear hown1 hg1 hat1 hownI hbelI
            go_wp2_with fail
            go_roundg g
            case measure => omega
            case rel => exact ⟨k + 1, os ++ [av], by omega, by go_num, by simp; omega, hS2, hown3, hbel4⟩
          | succ gg =>
            have j1 : (j : Int) < (n3 : Int) := by omega
            by_cases hav0 : 0 ≤ av
            · obtain ⟨bD, oD, rfl, hbD⟩ := reads_head r3.out (by omega) (by decide)
              obtain ⟨⟨st, sv, sn, sx⟩, hd0, c0, c1', c2', c3⟩ := sec_at (r3.out.below hbi.out) (show j < n3 by omega)
              have hxx := hexD.out _ (List.mem_of_getElem? hd0)
              dsimp only at c0 c1' c2' c3 hxx
              have hbw : bD < wr.heap.size := by have := hbi.out.size; omega
              have j0 : (0 : Int) ≤ (j : Int) := by omega
              have hbi2 : Hid (Below w4.heap.size w4 wr.drew) := hbi.out.drew
              by_cases t1 : sx < 0
              · have hav2 : Hid ((-1 : Int) = (D.take (j + 1)).foldl leaF wn) := by
                  unfold Hid
                  rw [leaF_take hd0, ← hav.out, leaF_end hav0 t1]
                clear hav hd0
                go_wp2_with fail
                go_roundg gg
                case measure => omega
                case rel => exact ⟨j + 1, -1, by omega, rfl, by go_num, hav2, hbi⟩
              · have hav2 : Hid ((if IntKind.i64.wrap (sx + 1) > (if sx > av then sx else av) then IntKind.i64.wrap (sx + 1) else (if sx > av then sx else av)) = (D.take (j + 1)).foldl leaF wn) := by
                  unfold Hid
                  rw [leaF_take hd0, ← hav.out]
                  exact max3_step av ⟨st, sv, sn, sx⟩ hav0 t1 hxx
                clear hav hd0
                have d1 := decide_eq_false t1
                generalize hgm : IntKind.i64.wrap (sx + 1) = sx1 at hav2
                by_cases m1 : sx > av
                · rw [if_pos m1] at hav2
                  by_cases m2 : sx1 > sx
                  · rw [if_pos m2] at hav2
                    go_wp2_with fail
                    go_still_tail 12, (by kernel_rfl)
                    change wpList _ _ _ _ _ wr.drew
                    go_wp2_with fail
                    go_roundg gg
                    case measure => omega
                    case rel => exact ⟨j + 1, _, by omega, rfl, by go_num, hav2, hbi2⟩
                  · rw [if_neg m2] at hav2
                    go_wp2_with fail
                    go_still_tail 12, (by kernel_rfl)
                    change wpList _ _ _ _ _ wr.drew
                    go_wp2_with fail
                    go_roundg gg
                    case measure => omega
                    case rel => exact ⟨j + 1, _, by omega, rfl, by go_num, hav2, hbi2⟩
                · rw [if_neg m1] at hav2
                  by_cases m2 : sx1 > av
                  · rw [if_pos m2] at hav2
                    go_wp2_with fail
                    go_still_tail 12, (by kernel_rfl)
                    change wpList _ _ _ _ _ wr.drew
                    go_wp2_with fail
                    go_roundg gg
                    case measure => omega
                    case rel => exact ⟨j + 1, _, by omega, rfl, by go_num, hav2, hbi2⟩
                  · rw [if_neg m2] at hav2
                    go_wp2_with fail
                    go_still_tail 12, (by kernel_rfl)
                    change wpList _ _ _ _ _ wr.drew
                    go_wp2_with fail
                    go_roundg gg
                    case measure => omega
                    case rel => exact ⟨j + 1, _, by omega, rfl, by go_num, hav2, hbi2⟩
            · have hfin : Hid (leaW S ⟨wt, wv, wn, wx⟩ = av) := by
                unfold Hid leaW
                dsimp only
                rw [hDD.out, leaF_stop wn (by rw [← hav.out]; omega), hav.out]
              clear hav
              have hS2 := Lib.hid (show os ++ [av] = (W.take (k + 1)).map (leaW S) from by rw [map_take _ hwk.out, hos.out, hfin.out])
              clear hwk hos
              go_wp2_with (at_builtin; refine wpList_append_any _ rfl (.tmp 78) (.tmp 80) 53 rfl (w2.heap.size) 3 i0 _ 1 8 Try.underlying53 hi0 hz0 hz1 hz2 rfl (by decide) u8 os.length (is_ os) rfl (hownI.out.alloc _) (wr.heap.size + 1) (some ⟨wr.heap.size, 0, none⟩) 1 1 [(Value.int .i64 av)] rfl ((reads_at wr _ [(Value.int .i64 av)] 1 _ rfl rfl).more (by simp)) (i_one _) (by unfold maxLen; omega) (by omega) (by have := hszI.out; simp; omega) ?_; intro v1 w3 hown1 hg1 hat1)
              have hown3 : Hid (w3.ownsRow (w2.heap.size) 3 1 v1 (os ++ [(av : Int)]).length (is_ (os ++ [(av : Int)]))) := by
                unfold Hid
                rw [List.length_append]
                exact own_snocI hown1
              have hbel4 : Hid (Below w2.heap.size w2 w3) := (hbelI.out.alloc hszI.out _).grown hg1 (by have := hszI.out; simp; omega) (fun q hq => (hownI.out.lt q hq).1)
              clear hown1 hg1 hat1 hownI hbelI
              go_wp2_with fail
              go_roundg g
              case measure => omega
              case rel => exact ⟨k + 1, os ++ [av], by omega, by go_num, by simp; omega, hS2, hown3, hbel4⟩
  · rw [if_neg hf, he]
    rw [he] at hs
    go_enter Try.func29, Try.ntmps29
    go_wp2_with fail
    refine hs.mono ?_
    rintro e w1 ⟨A1, n1, c1, rfl, e1, ho, hb⟩
    have b1 := Lib.hid hb
    clear hs hs2 hr e1 ho hb
    go_wp2_with fail
    go_ret2
    exact ⟨none, 0, 0, rfl, rfl, World.ownsRow_nil _ _ _ _, b1.out⟩
end Go.Proofs.Ythkppihfdlmhgaa
