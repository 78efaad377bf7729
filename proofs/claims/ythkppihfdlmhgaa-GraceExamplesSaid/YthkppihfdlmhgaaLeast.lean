/- grace.Least walked (printed by gen_least.py). -/
import Derived.Test.YthkppihfdlmhgaaMust
namespace Go.Proofs.Ythkppihfdlmhgaa
open Go Go.RowKit
set_option linter.unusedVariables false

/-- Numbers' cells. -/
def is_ (l : List Int) : List Value := l.map (Value.int .i64)
theorem is_len (l : List Int) : (is_ l).length = l.length := List.length_map _
theorem is_append (a b : List Int) : is_ (a ++ b) = is_ a ++ is_ b := List.map_append
theorem is_get (l : List Int) (k : Nat) {u : Value} (h : (is_ l)[k]? = some u) : ∃ v, l[k]? = some v ∧ u = .int .i64 v := by
  unfold is_ at h
  rw [List.getElem?_map] at h
  cases hv : l[k]? with
  | none => rw [hv] at h; cases h
  | some v => rw [hv] at h; exact ⟨v, rfl, by simpa using h.symm⟩
theorem i_one (v : Int) : ∀ u ∈ [Value.int .i64 v], u.oneCell' = true := by
  intro u hu
  simp at hu
  rw [hu]
  rfl
theorem own_snocI {w : World} {base n : Nat} {T : TypeId} {v : Value} {os : List Int} {x : Int} (h : w.ownsRow base T 1 v (n + 1) (is_ os ++ [.int .i64 x])) : w.ownsRow base T 1 v (n + 1) (is_ (os ++ [x])) := by
  rw [is_append]
  exact h
theorem leaF_neg {a : Int} (h : a < 0) : ∀ D : List Sec, D.foldl leaF a = a
  | [] => rfl
  | s :: D => by
    rw [List.foldl_cons, show leaF a s = a by unfold leaF; rw [if_pos h]]
    exact leaF_neg h D
theorem leaF_take {D : List Sec} {j : Nat} {s : Sec} (h : D[j]? = some s) (a : Int) : (D.take (j + 1)).foldl leaF a = leaF ((D.take j).foldl leaF a) s := by
  rw [List.take_add_one, h, Option.toList_some, List.foldl_append]
  rfl
theorem leaF_end {a : Int} {s : Sec} (h0 : 0 ≤ a) (hs : s.exit < 0) : leaF a s = -1 := by
  unfold leaF
  rw [if_neg (by omega), if_pos hs]
theorem leaF_pos {a : Int} {s : Sec} (h0 : 0 ≤ a) (hs : ¬ s.exit < 0) : 0 ≤ leaF a s := by
  unfold leaF
  rw [if_neg (by omega), if_neg hs]
  exact Int.le_trans h0 (Int.le_max_left _ _)
theorem wrap_i64 {x : Int} (h0 : -9223372036854775808 ≤ x) (h1 : x ≤ 9223372036854775807) : IntKind.i64.wrap x = x := by
  unfold IntKind.wrap
  simp [IntKind.bits, IntKind.signed]
  omega
theorem max_step (a : Int) (s : Sec) (h0 : 0 ≤ a) (h1 : ¬ s.exit < 0) (h2 : s.exit ≤ 9223372036854775807) :
    (if s.exit > (if IntKind.i64.wrap (s.exit + 1) > a then IntKind.i64.wrap (s.exit + 1) else a) then s.exit else (if IntKind.i64.wrap (s.exit + 1) > a then IntKind.i64.wrap (s.exit + 1) else a)) = leaF a s := by
  unfold leaF sucI
  rw [if_neg (show ¬ a < 0 by omega), if_neg h1, Int.max_def]
  by_cases hm : s.exit = 9223372036854775807
  · rw [if_pos hm, hm, show IntKind.i64.wrap (9223372036854775807 + 1) = -9223372036854775808 by decide]
    rw [if_neg (show ¬ (-9223372036854775808 > a) by omega)]
    split <;> split <;> omega
  · rw [if_neg hm, wrap_i64 (by omega) (by omega)]
    by_cases hx : s.exit + 1 > a
    · rw [if_pos hx, if_neg (by omega), if_pos (by omega)]
    · rw [if_neg hx, if_neg (by omega)]
      split <;> omega
theorem leaF_cut {D : List Sec} {j : Nat} {s : Sec} (h : D[j]? = some s) (a : Int) (h0 : 0 ≤ (D.take j).foldl leaF a) (hs : s.exit < 0) : D.foldl leaF a = -1 := by
  have h1 : D.foldl leaF a = (D.drop (j + 1)).foldl leaF ((D.take (j + 1)).foldl leaF a) := by
    conv => lhs; rw [← List.take_append_drop (j + 1) D]
    rw [List.foldl_append]
  rw [h1, leaF_take h, leaF_end h0 hs]
  exact leaF_neg (by decide) _
theorem nextOf_le {t : Int} : ∀ {l : List Ev}, (∀ p ∈ l, p.step ≤ 9223372036854775807) → nextOf t l ≤ 9223372036854775807
  | [], _ => by show (-1 : Int) ≤ _; decide
  | e :: l, h => by
    unfold nextOf
    by_cases ht : e.thread = t
    · rw [if_pos ht]; exact h e (by simp)
    · rw [if_neg ht]; exact nextOf_le (fun p hp => h p (by simp [hp]))
theorem secsK_le {q : Int} : ∀ {l : List Ev}, (∀ p ∈ l, p.step ≤ 9223372036854775807) → ∀ s ∈ secsK q l, s.exit ≤ 9223372036854775807
  | [], _ => fun s hs => by cases hs
  | e :: l, h => by
    have h2 : ∀ p ∈ l, p.step ≤ 9223372036854775807 := fun p hp => h p (by simp [hp])
    unfold secsK
    split
    · intro s hs
      rcases List.mem_cons.1 hs with rfl | hs
      · exact nextOf_le h2
      · exact secsK_le h2 s hs
    · exact secsK_le h2
theorem map_take {α β : Type} (f : α → β) {l : List α} {k : Nat} {x : α} (h : l[k]? = some x) : (l.take (k + 1)).map f = (l.take k).map f ++ [f x] := by
  rw [List.take_add_one, h, Option.toList_some, List.map_append]
  rfl
theorem infoI : (Try.prog.info? 3).map (fun i => (i.zero, i.size, i.bytes)) = some (some (.int .i64 0), 1, 8) := by kernel_rfl
/-- A list of numbers and an error. -/
def NumRes (L : List Int) (er : Int) (w : World) (e : Ending) (w' : World) : Prop :=
  ∃ A n c, e = .returned (.tuple #[.slice A n c, .int .i64 er]) ∧ Hid (n = L.length) ∧ Hid (w'.ownsRow w.heap.size 3 1 (.slice A n c) n (is_ L)) ∧ Below w.heap.size w w'

set_option maxRecDepth 100000 in
set_option maxHeartbeats 8000000 in
theorem gleast_any (l : List Ev) (A : Option Addr) (n c : Nat) (w : World) (hr : Hid (Reads w w.heap.size 4 A n (evs l))) (hn : n ≤ 65536) (hw : Hid (WfE l)) :
    Calls Try.prog 25 #[.slice A n c] w (NumRes (leaL l) (errL l) w) := by
  have hs := both_any l A n c w hr hn
  have hval := Lib.hid (secL_val (q := 1) hw.out)
  have hval3 := Lib.hid (secL_val (q := 3) hw.out)
  have hex := Lib.hid (secsK_le (q := 1) (fun p hp => (hw.out p hp).1))
  have hlen := secL_len' 1 l
  have hlen3 := secL_len' 3 l
  have hll := Lib.hid (evs_n hr.out)
  rw [hll.out] at hlen hlen3
  obtain ⟨i0, hi0, hz0, hz1, hz2⟩ := info_parts infoI
  unfold NumRes leaL
  unfold BothRes at hs
  rcases errL_or l with ⟨hf, he⟩ | ⟨hf, he⟩
  · have z1 : secL 1 l = secsK 1 l := if_pos hf
    have z3 : secL 3 l = secsK 3 l := if_pos hf
    have hen := Lib.hid (fun s hs => (src_facts hf (secsK_src (List.getElem?_of_mem hs).choose_spec).choose_spec).1 : ∀ s ∈ secsK 3 l, 0 ≤ s.enter)
    rw [if_pos hf, he]
    rw [he, z1, z3] at hs
    rw [z1] at hlen hval
    rw [z3] at hlen3 hval3
    clear he z1 z3 hf
    generalize secsK 1 l = S at hs hval hex hlen ⊢
    generalize secsK 3 l = W at hs hval3 hlen3 hen ⊢
    go_enter Try.func25, Try.ntmps25
    go_wp2_with fail
    refine hs.mono ?_
    rintro e w1 ⟨A1, n1, c1, A2, n2, c2, rfl, e1, e2, r1, r2, hb⟩
    have b1 := Lib.hid hb
    have hn1 : n1 ≤ 65536 := by have := e1.out; omega
    have hn2 : n2 ≤ 65536 := by have := e2.out; omega
    have hM := Lib.hid b1.out.size
    clear hb hs hr hlen hlen3
    go_wp2_with fail
    go_loopg [7, 24] n2 (fun g v i wr => ∃ (k : Nat) (os : List Int), k + g = n2 ∧ i = .int .i64 k ∧ os.length ≤ k ∧ Hid (os = (W.take k).map (leaW S)) ∧ Hid (wr.ownsRow w1.heap.size 3 1 v os.length (is_ os)) ∧ Hid (Below w1.heap.size w1 wr))
    case atStart => exact ⟨0, [], by omega, rfl, Nat.le_refl _, by unfold Hid; simp, World.ownsRow_nil _ _ _ _, Below.refl _ _⟩
    case round =>
      obtain ⟨k, os, hk, rfl, hol, hos, hown, hbel⟩ := hrel
      have hbw1 := hbel
      cases gk with
      | zero =>
        obtain rfl : k = n2 := by omega
        have hz : Hid (os = W.map (leaW S)) := by
          unfold Hid
          rw [hos.out, List.take_of_length_le (by rw [← e2.out]; exact Nat.le_refl _)]
        go_wp2_with fail
        go_ret2
        obtain ⟨A', c', rfl, _⟩ := own_form hown.out
        exact ⟨A', _, c', rfl, by rw [← hz.out]; exact rfl, by rw [← hz.out]; exact own_base hown.out hM.out, (below_on b1 hbel.out).out⟩
      | succ g =>
        obtain ⟨b, o, rfl, hbB⟩ := reads_head r2.out (by omega) (by decide)
        have hsz := Lib.hid hbel.out.size
        obtain ⟨⟨wt, wv, wn, wx⟩, hw4, c0, c1', c2', c3⟩ := sec_at (r2.out.below hbw1.out) (show k < n2 by omega)
        have hvv := Lib.hid (hval3.out _ (List.mem_of_getElem? hw4))
        have hw0 := hen.out _ (List.mem_of_getElem? hw4)
        have hwk := Lib.hid hw4
        have hbw : b < wr.heap.size := by have := hbw1.out.size; omega
        clear hw4
        dsimp only at c0 c1' c2' c3 hvv hw0
        have k0 : (0 : Int) ≤ (k : Int) := by omega
        have k1 : (k : Int) < (n2 : Int) := by omega
        have hX := Blk.new wr 74 #[.int .i64 wt, .int .u64 wv, .int .i64 wn, .int .i64 wx]
        have x1 := hX.cell 1
        have x2 := hX.cell 2
        simp only [List.getElem?_toArray, List.getElem?_cons_zero, List.getElem?_cons_succ] at x1 x2
        have hbX : Hid (Below w1.heap.size w1 (wr.alloc (.cells #[.int .i64 wt, .int .u64 wv, .int .i64 wn, .int .i64 wx] 74))) := hbw1.out.alloc hbw1.out.size _
        have hbY : Hid (Below wr.heap.size wr (wr.alloc (.cells #[.int .i64 wt, .int .u64 wv, .int .i64 wn, .int .i64 wx] 74))) := (Below.refl _ wr).alloc (Nat.le_refl _) _
        clear hX
        go_wp2_with fail
        refine (must_any wn wv _).mono ?_
        rintro e w2 ⟨rfl, hw2⟩
        have bt := two_boxes (wr.alloc (.cells #[.int .i64 wt, .int .u64 wv, .int .i64 wn, .int .i64 wx] 74)) 3 (.int .i64 wn) 23 (.int .u64 wv)
        rw [← hw2] at bt
        obtain ⟨bp, bq, bsz, bb⟩ := bt
        simp only [World.size_alloc] at bp bq bsz
        have hbX2 := below_on hbX bb
        have hbY2 := below_on hbY bb
        have r1' : Hid (Reads w2 w2.heap.size 4 A1 n1 (secs S)) := (r1.out.below hbX2.out).more hbX2.out.size
        clear hw2 bb hbX hbY c0 c1' c2' c3 x1 x2
        go_wp2_with fail
        refine (those_any S A1 n1 c1 wn wv (wr.heap.size + 1) (wr.heap.size + 1 + 1) w2 r1' hn1 hvv.out.1 hvv.out.2 (fun x hx => (hval.out x hx).1) bp bq (by omega) (by omega)).mono ?_
        rintro e w3 ⟨A3, n3, c3, rfl, hn3, hownD, hb⟩
        have e3 := Lib.hid hn3
        have r3 := (own_reads hownD).1
        have hb3 : Hid (Below w1.heap.size w1 w3) := below_on hbX2 hb
        have hb4 := below_on hbY2 hb
        have hbel3 : Hid (Below w1.heap.size w1 w3) := below_on hbel hb4.out
        have hown3 : Hid (w3.ownsRow w1.heap.size 3 1 u7 os.length (is_ os)) := own_below hown.out hb4.out
        have hexD : Hid (∀ s ∈ S.filter (dueB wn wv), s.exit ≤ 9223372036854775807) := fun s hs => hex.out s (List.mem_filter.1 hs).1
        have hn3' : n3 ≤ 65536 := by have := List.length_filter_le (dueB wn wv) S; have := e1.out; omega
        obtain ⟨D, hDD⟩ : ∃ D, Hid (S.filter (dueB wn wv) = D) := ⟨_, rfl⟩
        rw [hDD.out] at e3 r3 hexD
        clear hn3 hownD hb hbX2 hbY2 hb4 hown hbel hbw1 bp bq bsz r1' hsz hbw hbB
        go_wp2_with fail
        go_loopg [10, 38] n3 (fun gg v i wi => ∃ (j : Nat) (av : Int), j + gg = n3 ∧ v = .int .i64 av ∧ i = .int .i64 j ∧ 0 ≤ av ∧ Hid (av = (D.take j).foldl leaF wn) ∧ Hid (Below w3.heap.size w3 wi))
        case atStart => exact ⟨0, wn, by omega, rfl, rfl, hw0, rfl, Below.refl _ _⟩
        case round =>
          obtain ⟨j, av, hj, rfl, rfl, hav0, hav, hbi⟩ := hrel
          have hbelI : Hid (Below w1.heap.size w1 wr) := hbel3.out.trans (hbi.out.mono hbel3.out.size)
          have hownI : Hid (wr.ownsRow w1.heap.size 3 1 u7 os.length (is_ os)) := own_below hown3.out hbi.out
          have hszI := Lib.hid hbelI.out.size
          cases gk with
          | zero =>
            obtain rfl : j = n3 := by omega
            have hfin : Hid (leaW S ⟨wt, wv, wn, wx⟩ = av) := by
              unfold Hid leaW
              dsimp only
              rw [hDD.out, hav.out, List.take_of_length_le (by rw [← e3.out]; exact Nat.le_refl _)]
            clear hav
            have hS2 := Lib.hid (show os ++ [av] = (W.take (k + 1)).map (leaW S) from by rw [map_take _ hwk.out, hos.out, hfin.out])
            clear hwk hos
            go_wp2_with (at_builtin; refine wpList_append_any _ rfl (.tmp 55) (.tmp 57) 53 rfl (w1.heap.size) 3 i0 _ 1 8 Try.underlying53 hi0 hz0 hz1 hz2 rfl (by decide) u7 os.length (is_ os) rfl (hownI.out.alloc _) (wr.heap.size + 1) (some ⟨wr.heap.size, 0, none⟩) 1 1 [(Value.int .i64 av)] rfl ((reads_at wr _ [(Value.int .i64 av)] 1 _ rfl rfl).more (by simp)) (i_one _) (by unfold maxLen; omega) (by omega) (by have := hszI.out; simp; omega) ?_; intro v1 w3 hown1 hg1 hat1)
            have hown3 : Hid (w3.ownsRow (w1.heap.size) 3 1 v1 (os ++ [(av : Int)]).length (is_ (os ++ [(av : Int)]))) := by
              unfold Hid
              rw [List.length_append]
              exact own_snocI hown1
            have hbel4 : Hid (Below w1.heap.size w1 w3) := (hbelI.out.alloc hszI.out _).grown hg1 (by have := hszI.out; simp; omega) (fun q hq => (hownI.out.lt q hq).1)
            clear hown1 hg1 hat1 hownI hbelI
            go_wp2_with fail
            go_roundg g
            case measure => omega
            case rel => exact ⟨k + 1, os ++ [av], by omega, by go_num, by simp; omega, hS2, hown3, hbel4⟩
          | succ gg =>
            obtain ⟨bD, oD, rfl, hbD⟩ := reads_head r3.out (by omega) (by decide)
            obtain ⟨⟨st, sv, sn, sx⟩, hd0, c0, c1', c2', c3⟩ := sec_at (r3.out.below hbi.out) (show j < n3 by omega)
            have hxx := hexD.out _ (List.mem_of_getElem? hd0)
            dsimp only at c0 c1' c2' c3 hxx
            have hbw : bD < wr.heap.size := by have := hbi.out.size; omega
            have j0 : (0 : Int) ≤ (j : Int) := by omega
            have j1 : (j : Int) < (n3 : Int) := by omega
            have hX := Blk.new wr 43 #[.int .i64 st, .int .u64 sv, .int .i64 sn, .int .i64 sx]
            have x3 := hX.cell 3
            simp only [List.getElem?_toArray, List.getElem?_cons_zero, List.getElem?_cons_succ] at x3
            have hbi2 : Hid (Below w3.heap.size w3 (wr.alloc (.cells #[.int .i64 st, .int .u64 sv, .int .i64 sn, .int .i64 sx] 43))) := hbi.out.alloc hbi.out.size _
            clear hX
            by_cases t1 : sx < 0
            · have hfin : Hid (leaW S ⟨wt, wv, wn, wx⟩ = -1) := by
                unfold Hid leaW
                dsimp only
                rw [hDD.out]
                exact leaF_cut hd0 wn (by rw [← hav.out]; exact hav0) t1
              have hbelJ : Hid (Below w1.heap.size w1 (wr.alloc (.cells #[.int .i64 st, .int .u64 sv, .int .i64 sn, .int .i64 sx] 43))) := hbel3.out.trans (hbi2.out.mono hbel3.out.size)
              have hownJ : Hid ((wr.alloc (.cells #[.int .i64 st, .int .u64 sv, .int .i64 sn, .int .i64 sx] 43)).ownsRow w1.heap.size 3 1 u7 os.length (is_ os)) := own_below hown3.out hbi2.out
              clear hav hd0
              have hS2 := Lib.hid (show os ++ [(-1)] = (W.take (k + 1)).map (leaW S) from by rw [map_take _ hwk.out, hos.out, hfin.out])
              clear hwk hos
              go_wp2_with (at_builtin; refine wpList_append_any _ rfl (.tmp 55) (.tmp 57) 53 rfl (w1.heap.size) 3 i0 _ 1 8 Try.underlying53 hi0 hz0 hz1 hz2 rfl (by decide) u7 os.length (is_ os) rfl ((hownI.out.alloc _).alloc _) (wr.heap.size + 2) (some ⟨wr.heap.size + 1, 0, none⟩) 1 1 [(Value.int .i64 (-1))] rfl ((reads_at (wr.alloc _) _ [(Value.int .i64 (-1))] 1 _ (by simp) rfl).more (by simp)) (i_one _) (by unfold maxLen; omega) (by omega) (by have := hszI.out; simp; omega) ?_; intro v1 w3 hown1 hg1 hat1)
              have hown3 : Hid (w3.ownsRow (w1.heap.size) 3 1 v1 (os ++ [((-1) : Int)]).length (is_ (os ++ [((-1) : Int)]))) := by
                unfold Hid
                rw [List.length_append]
                exact own_snocI hown1
              have hbel4 : Hid (Below w1.heap.size w1 w3) := ((hbelI.out.alloc hszI.out _).alloc (by have := hszI.out; simp; omega) _).grown hg1 (by have := hszI.out; simp; omega) (fun q hq => (hownI.out.lt q hq).1)
              clear hown1 hg1 hat1 hownI hbelI
              go_wp2_with fail
              go_roundg g
              case measure => omega
              case rel => exact ⟨k + 1, os ++ [(-1)], by omega, by go_num, by simp; omega, hS2, hown3, hbel4⟩
            · have hav2 : Hid ((if sx > (if IntKind.i64.wrap (sx + 1) > av then IntKind.i64.wrap (sx + 1) else av) then sx else (if IntKind.i64.wrap (sx + 1) > av then IntKind.i64.wrap (sx + 1) else av)) = (D.take (j + 1)).foldl leaF wn) := by
                unfold Hid
                rw [leaF_take hd0, ← hav.out]
                exact max_step av ⟨st, sv, sn, sx⟩ hav0 t1 hxx
              have hp2 : 0 ≤ (if sx > (if IntKind.i64.wrap (sx + 1) > av then IntKind.i64.wrap (sx + 1) else av) then sx else (if IntKind.i64.wrap (sx + 1) > av then IntKind.i64.wrap (sx + 1) else av)) := by
                rw [max_step av ⟨st, sv, sn, sx⟩ hav0 t1 hxx]
                exact leaF_pos hav0 t1
              clear hav hd0
              have d1 := decide_eq_false t1
              generalize hgm : IntKind.i64.wrap (sx + 1) = sx1 at hav2 hp2
              by_cases m1 : sx1 > av
              · rw [if_pos m1] at hav2 hp2
                by_cases m2 : sx > sx1
                · rw [if_pos m2] at hav2 hp2
                  go_wp2_with fail
                  go_roundg gg
                  case measure => omega
                  case rel => exact ⟨j + 1, _, by omega, rfl, by go_num, hp2, hav2, hbi2⟩
                · rw [if_neg m2] at hav2 hp2
                  go_wp2_with fail
                  go_roundg gg
                  case measure => omega
                  case rel => exact ⟨j + 1, _, by omega, rfl, by go_num, hp2, hav2, hbi2⟩
              · rw [if_neg m1] at hav2 hp2
                by_cases m2 : sx > av
                · rw [if_pos m2] at hav2 hp2
                  go_wp2_with fail
                  go_roundg gg
                  case measure => omega
                  case rel => exact ⟨j + 1, _, by omega, rfl, by go_num, hp2, hav2, hbi2⟩
                · rw [if_neg m2] at hav2 hp2
                  go_wp2_with fail
                  go_roundg gg
                  case measure => omega
                  case rel => exact ⟨j + 1, _, by omega, rfl, by go_num, hp2, hav2, hbi2⟩
  · rw [if_neg hf, he]
    rw [he] at hs
    go_enter Try.func25, Try.ntmps25
    go_wp2_with fail
    refine hs.mono ?_
    rintro e w1 ⟨A1, n1, c1, A2, n2, c2, rfl, e1, e2, r1, r2, hb⟩
    clear hs hr e1 e2 r1 r2
    go_wp2_with fail
    go_ret2
    exact ⟨none, 0, 0, rfl, rfl, World.ownsRow_nil _ _ _ _, hb⟩
end Go.Proofs.Ythkppihfdlmhgaa
