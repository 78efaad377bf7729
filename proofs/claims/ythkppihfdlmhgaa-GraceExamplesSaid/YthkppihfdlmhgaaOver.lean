/- grace.those, both, Over, Must walked (printed by gen_over.py). -/
import Derived.Test.YthkppihfdlmhgaaWithin
namespace Go.Proofs.Ythkppihfdlmhgaa
open Go Go.RowKit
set_option linter.unusedVariables false

/-- Sections of one's own. -/
def SecOne (L : List Sec) (w : World) (e : Ending) (w' : World) : Prop :=
  ∃ A n c, e = .returned (.slice A n c) ∧ n = L.length ∧ w'.ownsRow w.heap.size 43 4 (.slice A n c) n (secs L) ∧ Below w.heap.size w w'
theorem cell_on {w w' : World} {p : Nat} {v : Value} (h : Hid (w.cell? ⟨p, 0, none⟩ = some v)) (hp : p < w.heap.size) (hb : Below w.heap.size w w') : Hid (w'.cell? ⟨p, 0, none⟩ = some v) := (hb.cell (p := ⟨p, 0, none⟩) hp).trans h.out

theorem two_boxes (w : World) (t : TypeId) (v : Value) (t' : TypeId) (v' : Value) :
    Hid (((w.alloc (.cells #[v] t)).alloc (.cells #[v'] t')).cell? ⟨w.heap.size, 0, none⟩ = some v) ∧ Hid (((w.alloc (.cells #[v] t)).alloc (.cells #[v'] t')).cell? ⟨w.heap.size + 1, 0, none⟩ = some v') ∧
      ((w.alloc (.cells #[v] t)).alloc (.cells #[v'] t')).heap.size = w.heap.size + 2 ∧ Below w.heap.size w ((w.alloc (.cells #[v] t)).alloc (.cells #[v'] t')) := by
  have b1 := ((Blk.new w t #[v]).alloc (.cells #[v'] t')).cell 0
  have b2 := (Blk.new (w.alloc (.cells #[v] t)) t' #[v']).cell 0
  rw [World.size_alloc] at b2
  exact ⟨b1, b2, by simp, ((Below.refl _ w).alloc (Nat.le_refl _) _).alloc (by simp) _⟩

set_option maxHeartbeats 4000000 in
theorem those_any (L : List Sec) (A : Option Addr) (n c : Nat) (fr set : Int) (p q : Nat) (w : World) (hr : Hid (Reads w w.heap.size 4 A n (secs L))) (hn : n ≤ 65536) (h0 : 0 ≤ set) (h1 : set < 18446744073709551616) (hv : ∀ s ∈ L, 0 ≤ s.val)
    (hp : Hid (w.cell? ⟨p, 0, none⟩ = some (.int .i64 fr))) (hq : Hid (w.cell? ⟨q, 0, none⟩ = some (.int .u64 set))) (hpl : p < w.heap.size) (hql : q < w.heap.size) :
    Calls Try.prog 21 #[.slice A n c, .func (.func 36) #[] #[.pointer (some ⟨p, 0, none⟩), .pointer (some ⟨q, 0, none⟩)]] w (SecOne (L.filter (dueB fr set)) w) := by
  have hl := Lib.hid (secs_n hr.out)
  obtain ⟨i0, hi0, hz0, hz1, hz2⟩ := info_parts infoSec
  have hb0 : Hid (Below w.heap.size w w) := Below.refl _ _
  go_enter Try.func21, Try.ntmps21
  go_wp2_with fail
  go_loopg [5, 10] n (fun g v i wr => ∃ (k : Nat) (os : List Sec), k + g = n ∧ i = .int .i64 k ∧ os.length ≤ k ∧ Hid (os = (L.take k).filter (dueB fr set)) ∧ Hid (wr.ownsRow w.heap.size 43 4 v os.length (secs os)) ∧ Hid (Below w.heap.size w wr))
  case atStart => exact ⟨0, [], by omega, rfl, Nat.le_refl _, by unfold Hid; simp, World.ownsRow_nil _ _ _ _, hb0⟩
  case round =>
    obtain ⟨k, os, hk, rfl, hol, hos, hown, hbel⟩ := hrel
    cases gk with
    | zero =>
      obtain rfl : k = n := by omega
      have hz : Hid (os = L.filter (dueB fr set)) := by
        unfold Hid
        rw [hos.out, List.take_of_length_le (by rw [hl.out]; exact Nat.le_refl _)]
      go_wp2_with fail
      go_ret
      obtain ⟨A', c', rfl, _⟩ := own_form hown.out
      exact ⟨A', _, c', rfl, by rw [← hz.out], by rw [← hz.out]; exact hown.out, hbel.out⟩
    | succ g =>
      obtain ⟨b, o, rfl, hbB⟩ := reads_head hr.out (by omega) (by decide)
      have hsz := Lib.hid hbel.out.size
      have hbw : b < wr.heap.size := by have := hsz.out; omega
      obtain ⟨⟨st, sv, sn, sx⟩, he0, c0, c1, c2, c3⟩ := sec_at (hr.out.below hbel.out) (show k < n by omega)
      have hv1 : 0 ≤ sv := hv _ (List.mem_of_getElem? he0)
      have hft := filter_take (dueB fr set) he0
      clear he0
      dsimp only at c0 c1 c2 c3
      have k0 : (0 : Int) ≤ (k : Int) := by omega
      have k1 : (k : Int) < (n : Int) := by omega
      have hbelx : Hid (Below w.heap.size w (wr.alloc (.cells #[.int .i64 st, .int .u64 sv, .int .i64 sn, .int .i64 sx] 43))) := hbel.out.alloc hsz.out _
      have hX := Lib.hid (Blk.new wr 43 #[.int .i64 st, .int .u64 sv, .int .i64 sn, .int .i64 sx])
      have x0 := hX.out.cell 0
      have x1 := hX.out.cell 1
      have x2 := hX.out.cell 2
      have x3 := hX.out.cell 3
      simp only [List.getElem?_toArray, List.getElem?_cons_zero, List.getElem?_cons_succ] at x0 x1 x2 x3
      go_wp2_with fail
      have hp2 := hbelx.out.cell (p := ⟨p, 0, none⟩) hpl
      have hq2 := hbelx.out.cell (p := ⟨q, 0, none⟩) hql
      have hs2 := hbelx.out.size
      refine (must1_any ⟨st, sv, sn, sx⟩ fr set p q h0 h1 hv1 _ (hp2.trans hp.out) (hq2.trans hq.out) (by omega) (by omega)).mono ?_
      rintro e w2 ⟨rfl, hb⟩
      have hbel2 : Hid (Below w.heap.size w w2) := hbelx.out.trans (hb.mono hs2)
      have hown2 : Hid (w2.ownsRow w.heap.size 43 4 u5 os.length (secs os)) := own_below (hown.out.alloc _) hb
      have hX2 := Lib.hid (hX.out.below hb hX.out.lt)
      have hsz2 := Lib.hid hbel2.out.size
      have hW := Lib.hid hX2.out.lt
      have y0 := hX2.out.cell 0
      have y1 := hX2.out.cell 1
      have y2 := hX2.out.cell 2
      have y3 := hX2.out.cell 3
      simp only [List.getElem?_toArray, List.getElem?_cons_zero, List.getElem?_cons_succ] at y0 y1 y2 y3
      clear hp2 hq2 hs2 hb hX x0 x1 x2 x3 c0 c1 c2 c3 hbelx hbel hown hsz hX2
      generalize wr.heap.size = X at y0 y1 y2 y3 hW ⊢
      cases hd : dueB fr set ⟨st, sv, sn, sx⟩ with
      | true =>
        rw [hd, if_pos rfl] at hft
        have hS2 := Lib.hid (show os ++ [(⟨st, sv, sn, sx⟩ : Sec)] = (L.take (k + 1)).filter (dueB fr set) from by rw [hft, hos.out])
        clear hft hd
        go_wp2_with (at_builtin; refine wpList_append_any _ rfl (.tmp 17) (.tmp 19) 25 rfl (w.heap.size) 43 i0 _ 4 32 Try.underlying25 hi0 hz0 hz1 hz2 rfl (by decide) u5 os.length (secs os) rfl (hown2.out.alloc _) (w2.heap.size + 1) (some ⟨w2.heap.size, 0, none⟩) 1 1 (seC (⟨st, sv, sn, sx⟩ : Sec)) rfl ((reads_at w2 _ (seC (⟨st, sv, sn, sx⟩ : Sec)) 1 _ rfl rfl).more (by simp)) (seC_one _) (by unfold maxLen; omega) (by omega) (by have := hsz2.out; simp; omega) ?_; intro v1 w3 hown1 hg1 hat1)
        have hown3 : Hid (w3.ownsRow (w.heap.size) 43 4 v1 (os ++ [(⟨st, sv, sn, sx⟩ : Sec)]).length (secs (os ++ [(⟨st, sv, sn, sx⟩ : Sec)]))) := by
          unfold Hid
          rw [List.length_append]
          exact own_snocS hown1
        have hbel4 : Hid (Below w.heap.size w w3) := (hbel2.out.alloc hsz2.out _).grown hg1 (by have := hsz2.out; simp; omega) (fun q hq => (hown2.out.lt q hq).1)
        clear hown1 hg1 hat1
        go_wp2_with fail
        go_roundg g
        case measure => omega
        case rel => exact ⟨k + 1, os ++ [⟨st, sv, sn, sx⟩], by omega, by go_num, by simp; omega, hS2, hown3, hbel4⟩
      | false =>
        rw [hd, if_neg (by decide)] at hft
        have hS2 := Lib.hid (hos.out.trans hft.symm)
        clear hft hd
        go_wp2_with fail
        go_roundg g
        case measure => omega
        case rel => exact ⟨k + 1, os, by omega, by go_num, by omega, hS2, hown2, hbel2⟩

/-- What both returns. -/
def BothRes (l : List Ev) (w : World) (e : Ending) (w' : World) : Prop :=
  ∃ A n c A' n' c', e = .returned (.tuple #[.slice A n c, .slice A' n' c', .int .i64 (errL l)]) ∧ Hid (n = (secL 1 l).length) ∧ Hid (n' = (secL 3 l).length) ∧ Hid (Reads w' w'.heap.size 4 A n (secs (secL 1 l))) ∧ Hid (Reads w' w'.heap.size 4 A' n' (secs (secL 3 l))) ∧ Below w.heap.size w w'
theorem errL_or (l : List Ev) : (FineTo l l.length ∧ errL l = 0) ∨ (¬ FineTo l l.length ∧ errL l = 15) := by
  by_cases h : FineTo l l.length
  · exact .inl ⟨h, errL_fine h⟩
  · exact .inr ⟨h, errL_bad h⟩
theorem both_any (l : List Ev) (A : Option Addr) (n c : Nat) (w : World) (hr : Hid (Reads w w.heap.size 4 A n (evs l))) (hn : n ≤ 65536) :
    Calls Try.prog 40 #[.slice A n c] w (BothRes l w) := by
  have hs := sections_at l A n c w hr hn
  unfold BothRes
  rcases errL_or l with ⟨hf, he⟩ | ⟨hf, he⟩
  · rw [he] at hs ⊢
    go_enter Try.func40, Try.ntmps40
    go_wp2_with fail
    refine hs.mono ?_
    rintro e w1 ⟨A1, n1, c1, rfl, hn1, hown, hb⟩
    have r1 := (own_reads hown).1
    have i1 := reads_on hr hb
    have b1 := Lib.hid hb
    have e1 := Lib.hid hn1
    clear hn1 hown hb hs hr
    have hw := waits_at l A n c w1 i1 hn
    rw [he] at hw
    go_wp2_with fail
    refine hw.mono ?_
    rintro e w2 ⟨A2, n2, c2, rfl, hn2, hown, hb⟩
    have r2 := (own_reads hown).1
    have q1 := reads_on r1 hb
    have b2 := below_on b1 hb
    have e2 := Lib.hid hn2
    clear hn2 hown hb r1 b1
    go_wp2_with fail
    go_ret3
    exact ⟨A1, n1, c1, A2, n2, c2, rfl, e1, e2, q1, r2, b2.out⟩
  · have z1 : secL 1 l = [] := if_neg hf
    have z3 : secL 3 l = [] := if_neg hf
    rw [he] at hs ⊢
    rw [z1] at hs
    rw [z1, z3]
    go_enter Try.func40, Try.ntmps40
    go_wp2_with fail
    refine hs.mono ?_
    rintro e w1 ⟨A1, n1, c1, rfl, hn1, hown, hb⟩
    clear hn1 hown hs hr
    go_wp2_with fail
    go_ret3
    exact ⟨none, 0, 0, none, 0, 0, rfl, rfl, rfl, Reads.none_, Reads.none_, hb⟩

/-- Values and steps are machine words. -/
def WfE (l : List Ev) : Prop := ∀ p ∈ l, p.step ≤ 9223372036854775807 ∧ 0 ≤ p.val ∧ p.val < 18446744073709551616
theorem secsK_in {q : Int} {l : List Ev} {s : Sec} (h : s ∈ secsK q l) : ∃ p ∈ l, s.val = p.val := by
  induction l with
  | nil => cases h
  | cons e l ih =>
    unfold secsK at h
    split at h
    · rcases List.mem_cons.1 h with rfl | h
      · exact ⟨e, by simp, rfl⟩
      · obtain ⟨p, hp, hv⟩ := ih h
        exact ⟨p, by simp [hp], hv⟩
    · obtain ⟨p, hp, hv⟩ := ih h
      exact ⟨p, by simp [hp], hv⟩
theorem secL_val {q : Int} {l : List Ev} (hw : WfE l) : ∀ s ∈ secL q l, 0 ≤ s.val ∧ s.val < 18446744073709551616 := by
  intro s hs
  unfold secL at hs
  split at hs
  · obtain ⟨p, hp, hv⟩ := secsK_in hs
    rw [hv]
    exact ⟨(hw p hp).2.1, (hw p hp).2.2⟩
  · cases hs
theorem secL_len' (q : Int) (l : List Ev) : (secL q l).length ≤ l.length := by
  unfold secL
  split
  · exact secsK_len q l
  · simp

set_option maxHeartbeats 4000000 in
theorem over_any (l : List Ev) (t s : Int) (A : Option Addr) (n c : Nat) (w : World) (hr : Hid (Reads w w.heap.size 4 A n (evs l))) (hn : n ≤ 65536) (hw : WfE l) (h0 : 0 ≤ s) (h1 : s < 18446744073709551616) :
    Calls Try.prog 9 #[.int .i64 t, .int .u64 s, .slice A n c] w (SecRes 43 (ovL l t s) (ovEr l t s) w) := by
  have hs := sections_at l A n c w hr hn
  have hval := secL_val (q := 1) hw
  have hlen := secL_len' 1 l
  have hll := Lib.hid (evs_n hr.out)
  rw [hll.out] at hlen
  unfold ovL ovEr SecRes
  rcases errL_or l with ⟨hf, he⟩ | ⟨hf, he⟩
  · have z1 : secL 1 l = secsK 1 l := if_pos hf
    rw [if_pos hf]
    rw [he, z1] at hs
    rw [z1] at hlen hval
    clear he z1
    by_cases ht : t < 0
    · rw [if_pos ht, if_neg (fun h => h.2.1 ht)]
      have d1 := decide_eq_true ht
      go_enter Try.func9, Try.ntmps9
      go_wp2_with fail
      refine hs.mono ?_
      rintro e w1 ⟨A1, n1, c1, rfl, hn1, hown, hb⟩
      clear hn1 hown hs hr
      go_wp2_with fail
      go_ret2
      exact ⟨none, 0, 0, rfl, rfl, World.ownsRow_nil _ _ _ _, hb⟩
    · have d1 := decide_eq_false ht
      by_cases hz : s = 0
      · rw [if_neg ht, if_pos hz, if_neg (fun h => h.2.2 hz)]
        subst hz
        go_enter Try.func9, Try.ntmps9
        go_wp2_with fail
        refine hs.mono ?_
        rintro e w1 ⟨A1, n1, c1, rfl, hn1, hown, hb⟩
        clear hn1 hown hs hr
        go_wp2_with fail
        go_ret2
        exact ⟨none, 0, 0, rfl, rfl, World.ownsRow_nil _ _ _ _, hb⟩
      · rw [if_neg ht, if_neg hz, if_pos ⟨hf, ht, hz⟩]
        have d2 : (s == 0) = false := by simpa using hz
        go_enter Try.func9, Try.ntmps9
        go_wp2_with fail
        refine hs.mono ?_
        rintro e w1 ⟨A1, n1, c1, rfl, hn1, hown, hb⟩
        have r1 := (own_reads hown).1
        have b1 := Lib.hid hb
        have hn1' : n1 ≤ 65536 := by omega
        clear hn1 hown hb hs hr hlen hll
        go_wp2_with fail
        refine (must_any t s w1).mono ?_
        rintro e w2 ⟨rfl, hw2⟩
        have bt := two_boxes w1 3 (.int .i64 t) 23 (.int .u64 s)
        rw [← hw2] at bt
        obtain ⟨bp, bq, bsz, bb⟩ := bt
        have r2 := reads_on r1 bb
        have b2 := below_on b1 bb
        clear hw2 bb r1 b1
        go_wp2_with fail
        refine (those_any (secsK 1 l) A1 n1 c1 t s (w1.heap.size) (w1.heap.size + 1) w2 r2 hn1' h0 h1 (fun x hx => (hval x hx).1) bp bq (by omega) (by omega)).mono ?_
        rintro e w3 ⟨A3, n3, c3, rfl, hn3, hown, hb⟩
        have b3 := below_on b2 hb
        have hown2 := Lib.hid (own_base hown (show w.heap.size ≤ w2.heap.size from b2.out.size))
        have e3 := Lib.hid hn3
        clear hn3 hown hb b2 r2
        go_wp2_with fail
        go_ret2
        exact ⟨A3, n3, c3, rfl, e3.out, hown2.out, b3.out⟩
  · have z1 : secL 1 l = [] := if_neg hf
    rw [if_neg hf, if_neg (fun h => hf h.1)]
    rw [he] at hs
    go_enter Try.func9, Try.ntmps9
    go_wp2_with fail
    refine hs.mono ?_
    rintro e w1 ⟨A1, n1, c1, rfl, hn1, hown, hb⟩
    clear hn1 hown hs hr
    go_wp2_with fail
    go_ret2
    exact ⟨none, 0, 0, rfl, rfl, World.ownsRow_nil _ _ _ _, hb⟩
end Go.Proofs.Ythkppihfdlmhgaa
