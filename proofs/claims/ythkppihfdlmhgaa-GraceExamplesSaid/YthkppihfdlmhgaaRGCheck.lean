/- leapfrogref21.Check walked (printed by gen_rgcheck.py). -/
import Derived.Test.YthkppihfdlmhgaaRefOv
import Derived.Test.YthkppihfdlmhgaaRefP
import Derived.Test.YthkppihfdlmhgaaGCheck
import Derived.StillTailTactics
import Derived.BigQuiet
namespace Go.Proofs.Ythkppihfdlmhgaa
open Go Go.RowKit
set_option linter.unusedVariables false

theorem any_tk {α : Type} {p : α → Bool} {L : List α} {k : Nat} {x : α} (h : (L.take k).any p = false) (hx : L[k]? = some x) (hp : p x = false) : (L.take (k + 1)).any p = false := by
  rw [List.take_add_one, hx, Option.toList_some, List.any_append, h]
  simp [hp]
theorem any_hit {α : Type} {p : α → Bool} {L : List α} {k : Nat} {x : α} (hx : L[k]? = some x) (hp : p x = true) : L.any p = true :=
  List.any_eq_true.2 ⟨x, List.mem_of_getElem? hx, hp⟩
/-- The reference's test of a wait. -/
def waitB (S : List Sec) (x : Ev) (w : Sec) : Bool := endB x w && (S.filter (dueB w.enter w.val)).any (heldB w)
theorem waitB_not {S : List Sec} {x : Ev} {w : Sec} (h : ¬ (x.kind = 4 ∧ w.thread = x.thread ∧ w.exit = x.step)) : waitB S x w = false := by
  unfold waitB endB
  rw [Bool.and_eq_false_iff]
  left
  by_cases h1 : x.kind = 4
  · by_cases h2 : w.thread = x.thread
    · rw [decide_eq_false (fun h3 : w.exit = x.step => h ⟨h1, h2, h3⟩)]
      simp
    · rw [decide_eq_false h2]
      simp
  · rw [decide_eq_false h1]
    rfl
theorem waitB_is {S : List Sec} {x : Ev} {w : Sec} (h1 : x.kind = 4) (h2 : w.thread = x.thread) (h3 : w.exit = x.step) : waitB S x w = (S.filter (dueB w.enter w.val)).any (heldB w) := by
  unfold waitB endB
  rw [decide_eq_true h1, decide_eq_true h2, decide_eq_true h3]
  rfl

set_option maxRecDepth 100000 in
set_option maxHeartbeats 8000000 in
theorem rgcheck_end (l : List Ev) (A : Option Addr) (n c : Nat) (w : World) (hr : Hid (Reads w w.heap.size 4 A n (evs l))) (hn : n ≤ 65536) (hw : Hid (WfE l)) :
    Calls Try.prog 28 #[.slice A n c] w (GkEnd l w) := by
  have hl := Lib.hid (evs_n hr.out)
  have hck := rcheck_at l A n c w hr hn
  have hs := Lib.hid (fun W h => rsections_at l A n c W h hn : ∀ W : World, Hid (Reads W W.heap.size 4 A n (evs l)) → Calls Try.prog 23 #[.slice A n c] W (SecRes 43 (secL 1 l) (errL l) W))
  have hs2 := Lib.hid (fun W h => rwaits_at l A n c W h hn : ∀ W : World, Hid (Reads W W.heap.size 4 A n (evs l)) → Calls Try.prog 41 #[.slice A n c] W (SecRes 74 (secL 3 l) (errL l) W))
  have hval := Lib.hid (secL_val (q := 1) hw.out)
  have hval3 := Lib.hid (secL_val (q := 3) hw.out)
  have hlen := secL_len' 1 l
  have hlen3 := secL_len' 3 l
  rw [hl.out] at hlen hlen3
  unfold SecRes at hs hs2
  rcases errL_or l with ⟨hf, he⟩ | ⟨hf, he⟩
  · have z1 : secL 1 l = secsK 1 l := if_pos hf
    have z3 : secL 3 l = secsK 3 l := if_pos hf
    have hF := Lib.hid hf
    have hE := Lib.hid (fun k x hx => ref_early hf hx : ∀ (k : Nat) (x : Ev), l[k]? = some x → (secsK 3 l).any (waitB (secsK 1 l) x) = earB l k x)
    rw [he] at hck
    rw [he, z1] at hs
    rw [he, z3] at hs2
    rw [z1] at hlen hval
    rw [z3] at hlen3 hval3
    clear he z1 z3 hf
    generalize secsK 1 l = S at hs hval hlen hE ⊢
    generalize secsK 3 l = W at hs2 hval3 hlen3 hE ⊢
    unfold GkEnd
    go_enter Try.func28, Try.ntmps28
    go_wp2_with fail
    refine hck.mono ?_
    rintro e w1 ⟨rfl, hb⟩
    have b1 := Lib.hid hb
    have hr1 := reads_on hr hb
    clear hck hb hr
    go_wp2_with fail
    refine (hs.out w1 hr1).mono ?_
    rintro e w2 ⟨A1, n1, c1, rfl, e1, ho, hb⟩
    have b2 := below_on b1 hb
    have hr2 := reads_on hr1 hb
    have r1 := (own_reads ho).1
    have hn1 : n1 ≤ 65536 := by omega
    have e1h := Lib.hid e1
    clear hs hr1 b1 e1 ho hb hlen
    go_wp2_with fail
    refine (hs2.out w2 hr2).mono ?_
    rintro e w3 ⟨A2, n2, c2, rfl, e2, ho, hb⟩
    have b3 := below_on b2 hb
    have hr3 := reads_on hr2 hb
    have r1b := reads_on r1 hb
    have r2 := (own_reads ho).1
    have hn2 : n2 ≤ 65536 := by omega
    have e2h := Lib.hid e2
    clear hs2 hr2 r1 b2 e2 ho hb hlen3
    go_wp2_with fail
    go_loopg [10] n (fun g v wr => ∃ i : Nat, i + g = n ∧ v = .int .i64 i ∧ Hid (LateTo l i) ∧ Hid (Below w3.heap.size w3 wr))
    case atStart => exact ⟨0, by omega, rfl, late_zero l, Below.refl _ _⟩
    case round =>
      obtain ⟨i, hi, rfl, hL, hbel⟩ := hrel
      cases gk with
      | zero =>
        obtain rfl : i = n := by omega
        have hL2 : Hid (LateTo l l.length) := by rw [hl.out]; exact hL
        clear hL
        go_wp2_with fail
        try rw [Exit.noGoto_ret]
        go_ret2
        exact ⟨0, 0, rfl, .inr (.inr ⟨hF.out, hL2.out, rfl, rfl⟩), (below_on b3 hbel.out).out⟩
      | succ g =>
        obtain ⟨⟨es, et, ek, ev⟩, he0'⟩ : ∃ x, l[i]? = some x := ⟨_, List.getElem?_eq_getElem (show i < l.length by have := hl.out; omega)⟩
        have he0 := Lib.hid he0'
        have i0 : (0 : Int) ≤ (i : Int) := by omega
        have i1 : (i : Int) < (n : Int) := by omega
        clear he0'
        go_wp2_with fail
        go_loopg [11] n2 (fun g2 v wr => ∃ k : Nat, k + g2 = n2 ∧ v = .int .i64 k ∧ Hid ((W.take k).any (waitB S ⟨es, et, ek, ev⟩) = false) ∧ Hid (Below w3.heap.size w3 wr))
        case atStart => exact ⟨0, by omega, rfl, rfl, hbel.out⟩
        case round =>
          clear hbel
          obtain ⟨k, hk, rfl, hany, hbel⟩ := hrel
          cases gk with
          | zero =>
            obtain rfl : k = n2 := by omega
            have hear : earB l i ⟨es, et, ek, ev⟩ = false := by
              rw [← hE.out i _ he0.out]
              have h6 := hany.out
              rw [List.take_of_length_le (by rw [← e2h.out]; exact Nat.le_refl _)] at h6
              exact h6
            have hL2 := Lib.hid (late_step hL.out he0.out hear)
            clear hany hear
            go_wp2_with fail
            go_roundg g
            case measure => omega
            case rel => exact ⟨i + 1, by omega, by go_num, hL2, hbel⟩
          | succ g2 =>
            obtain ⟨w4, rfl⟩ : ∃ w4 : World, w4 = wr := ⟨_, rfl⟩
            obtain ⟨bW, oW, rfl, hbW⟩ := reads_head r2.out (by omega) (by decide)
            obtain ⟨bE, oE, rfl, hbE⟩ := reads_head hr3.out (show 0 < n by omega) (by decide)
            obtain ⟨⟨wt, wv, wn, wx⟩, hw0', a0, a1, a2, a3⟩ := sec_at (r2.out.below hbel.out) (show k < n2 by omega)
            obtain ⟨e0, hx0, c0, c1, c2, c3⟩ := ev_at (hr3.out.below hbel.out) (show i < n by omega)
            obtain rfl : ⟨es, et, ek, ev⟩ = e0 := Option.some.inj (he0.out.symm.trans hx0)
            have hvv := Lib.hid (hval3.out _ (List.mem_of_getElem? hw0'))
            have hw0 := Lib.hid hw0'
            dsimp only at a0 a1 a2 a3 c0 c1 c2 c3 hvv
            have hbw : bW < w4.heap.size := by have := hbel.out.size; omega
            have hbw2 : bE < w4.heap.size := by have := hbel.out.size; omega
            have k0 : (0 : Int) ≤ (k : Int) := by omega
            have k1 : (k : Int) < (n2 : Int) := by omega
            have hX := Blk.new w4 74 #[.int .i64 wt, .int .u64 wv, .int .i64 wn, .int .i64 wx]
            have x0 := hX.cell 0
            have x1 := hX.cell 1
            have x2 := hX.cell 2
            have x3 := hX.cell 3
            simp only [List.getElem?_toArray, List.getElem?_cons_zero, List.getElem?_cons_succ] at x0 x1 x2 x3
            have hbX : Hid (Below w3.heap.size w3 (w4.alloc (.cells #[.int .i64 wt, .int .u64 wv, .int .i64 wn, .int .i64 wx] 74))) := hbel.out.alloc hbel.out.size _
            have hwX : w4.heap.size < (w4.alloc (.cells #[.int .i64 wt, .int .u64 wv, .int .i64 wn, .int .i64 wx] 74)).heap.size := by simp
            clear hw0' hx0 hX c3
            go_wp2_with fail
            by_cases u1 : ek = 4
            · subst u1
              by_cases u2 : wt = et
              · subst u2
                by_cases u3 : wx = es
                · subst u3
                  go_quiet (fail)
                  go_wp2_with fail
                  obtain ⟨w6, hw6⟩ : ∃ w6, (w4.alloc (.cells #[.int .i64 wt, .int .u64 wv, .int .i64 wn, .int .i64 wx] 74)).drewN nq = w6 := ⟨_, rfl⟩
                  have b6 : Hid (Below w3.heap.size w3 w6) := by rw [← hw6]; exact (below_drewN hbX _)
                  have b46 : Below (w4.alloc (.cells #[.int .i64 wt, .int .u64 wv, .int .i64 wn, .int .i64 wx] 74)).heap.size (w4.alloc (.cells #[.int .i64 wt, .int .u64 wv, .int .i64 wn, .int .i64 wx] 74)) w6 := by rw [← hw6]; exact below_drewN (Below.refl _ _) _
                  have y1 := (b46.cell (p := ⟨w4.heap.size, 1, none⟩) hwX).trans x1
                  have y2 := (b46.cell (p := ⟨w4.heap.size, 2, none⟩) hwX).trans x2
                  have y3 := (b46.cell (p := ⟨w4.heap.size, 3, none⟩) hwX).trans x3
                  have hw6l : w4.heap.size < w6.heap.size := Nat.lt_of_lt_of_le hwX b46.size
                  have r16 := reads_on r1b b6.out
                  rw [hw6]
                  clear hw6 b46 x0 x1 x2 x3 a0 a1 a2 a3 c0 c1 c2 hbX hbel hwX
                  go_wp2_with fail
                  refine (rdue_any S A1 n1 c1 wn wv w6 r16 hn1 hvv.out.1 hvv.out.2 (fun x hx => (hval.out x hx).1)).mono ?_
                  rintro e w5 ⟨A3, n3, c3, rfl, hn3, hownD, hb⟩
                  have e3 := Lib.hid hn3
                  have r3 := (own_reads hownD).1
                  have hbel5 : Hid (Below w3.heap.size w3 w5) := below_on b6 hb
                  have xw3 := (hb.cell (p := ⟨w4.heap.size, 3, none⟩) hw6l).trans y3
                  have hwl : w4.heap.size < w5.heap.size := Nat.lt_of_lt_of_le hw6l hb.size
                  have hn3' : n3 ≤ 65536 := by have := List.length_filter_le (dueB wn wv) S; have := e1h.out; omega
                  obtain ⟨D, hDD⟩ : ∃ D, Hid (S.filter (dueB wn wv) = D) := ⟨_, rfl⟩
                  rw [hDD.out] at e3 r3
                  clear hn3 hownD hb r16 b6 y1 y2 y3 hw6l
                  go_wp2_with fail
                  go_loopg [14] n3 (fun g3 v wr => ∃ m : Nat, m + g3 = n3 ∧ v = .int .i64 m ∧ Hid ((D.take m).any (heldB ⟨wt, wv, wn, wx⟩) = false) ∧ Hid (Below w5.heap.size w5 wr))
                  case atStart => exact ⟨0, by omega, rfl, rfl, Below.refl _ _⟩
                  case round =>
                    obtain ⟨m, hm, rfl, hany6, hb6⟩ := hrel
                    cases gk with
                    | zero =>
                      obtain rfl : m = n3 := by omega
                      have hwb : waitB S ⟨wx, wt, 4, ev⟩ ⟨wt, wv, wn, wx⟩ = false := by
                        rw [waitB_is rfl rfl rfl]
                        dsimp only
                        rw [hDD.out]
                        have h6 := hany6.out
                        rw [List.take_of_length_le (by rw [← e3.out]; exact Nat.le_refl _)] at h6
                        exact h6
                      have hany2 := Lib.hid (any_tk hany.out hw0.out hwb)
                      have hbel6 : Hid (Below w3.heap.size w3 wr) := hbel5.out.trans (hb6.out.mono hbel5.out.size)
                      clear hany6 hany hwb xw3
                      go_wp2_with fail
                      go_roundg g2
                      case measure => omega
                      case rel => exact ⟨k + 1, by omega, by go_num, hany2, hbel6⟩
                    | succ g3 =>
                      obtain ⟨bD, oD, rfl, hbD⟩ := reads_head r3.out (by omega) (by decide)
                      obtain ⟨⟨st, sv, sn, sx⟩, hd0, c0, c1', c2', c3⟩ := sec_at (r3.out.below hb6.out) (show m < n3 by omega)
                      dsimp only at c0 c1' c2' c3
                      have hbw : bD < wr.heap.size := by have := hb6.out.size; omega
                      have m0 : (0 : Int) ≤ (m : Int) := by omega
                      have m1 : (m : Int) < (n3 : Int) := by omega
                      have x3 := (hb6.out.cell (p := ⟨w4.heap.size, 3, none⟩) hwl).trans xw3
                      clear c0 c1' c2'
                      by_cases t1 : sx < 0
                      · have d1 := decide_eq_true t1
                        have hh : heldB ⟨wt, wv, wn, wx⟩ ⟨st, sv, sn, sx⟩ = true := by unfold heldB; dsimp only; rw [d1]; rfl
                        have hwb : waitB S ⟨wx, wt, 4, ev⟩ ⟨wt, wv, wn, wx⟩ = true := by
                          rw [waitB_is rfl rfl rfl]
                          dsimp only
                          rw [hDD.out]
                          exact any_hit hd0 hh
                        have hear : earB l i ⟨wx, wt, 4, ev⟩ = true := by rw [← hE.out i _ he0.out]; exact any_hit hw0.out hwb
                        have hearh := Lib.hid hear
                        have hbel6 : Hid (Below w.heap.size w wr) := below_on b3 ((hbel5.out.trans (hb6.out.mono hbel5.out.size)))
                        clear hwb hear hd0 hh hany hany6
                        go_wp2_with fail
                        go_quiet (fail)
                        go_wp2_with fail
                        try rw [Exit.noGoto_ret]
                        go_ret2
                        exact ⟨i, 19, rfl, .inr (.inl ⟨hF.out, i, _, he0.out, hL.out, hearh.out, rfl, rfl⟩), below_drewN hbel6 _⟩
                      · have d1 := decide_eq_false t1
                        by_cases t2 : wx ≤ sx
                        · have d2 := decide_eq_true t2
                          have hh : heldB ⟨wt, wv, wn, wx⟩ ⟨st, sv, sn, sx⟩ = true := by unfold heldB; dsimp only; rw [d2]; simp
                          have hwb : waitB S ⟨wx, wt, 4, ev⟩ ⟨wt, wv, wn, wx⟩ = true := by
                            rw [waitB_is rfl rfl rfl]
                            dsimp only
                            rw [hDD.out]
                            exact any_hit hd0 hh
                          have hear : earB l i ⟨wx, wt, 4, ev⟩ = true := by rw [← hE.out i _ he0.out]; exact any_hit hw0.out hwb
                          have hearh := Lib.hid hear
                          have hbel6 : Hid (Below w.heap.size w wr) := below_on b3 ((hbel5.out.trans (hb6.out.mono hbel5.out.size)))
                          clear hwb hear hd0 hh hany hany6
                          go_wp2_with fail
                          go_quiet (fail)
                          go_wp2_with fail
                          try rw [Exit.noGoto_ret]
                          go_ret2
                          exact ⟨i, 19, rfl, .inr (.inl ⟨hF.out, i, _, he0.out, hL.out, hearh.out, rfl, rfl⟩), below_drewN hbel6 _⟩
                        · have d2 := decide_eq_false t2
                          have hh : heldB ⟨wt, wv, wn, wx⟩ ⟨st, sv, sn, sx⟩ = false := by unfold heldB; dsimp only; rw [d1, d2]; rfl
                          have hany7 := Lib.hid (any_tk hany6.out hd0 hh)
                          clear hany6 hh hd0
                          go_wp2_with fail
                          go_quiet (fail)
                          go_wp2_with fail
                          go_roundg g3
                          case measure => omega
                          case rel => exact ⟨m + 1, by omega, by go_num, hany7, below_drewN hb6 _⟩
                · have d3 : (wx == es) = false := by simpa using u3
                  have d3' : decide (wx = es) = false := decide_eq_false u3
                  have hany2 := Lib.hid (any_tk hany.out hw0.out (waitB_not (by dsimp only; omega)))
                  clear hany
                  go_quiet (fail)
                  go_wp2_with fail
                  go_roundg g2
                  case measure => omega
                  case rel => exact ⟨k + 1, by omega, by go_num, hany2, below_drewN hbX _⟩
              · have d2 : (wt == et) = false := by simpa using u2
                have d2' : decide (wt = et) = false := decide_eq_false u2
                have hany2 := Lib.hid (any_tk hany.out hw0.out (waitB_not (by dsimp only; omega)))
                clear hany
                go_quiet (fail)
                go_wp2_with fail
                go_roundg g2
                case measure => omega
                case rel => exact ⟨k + 1, by omega, by go_num, hany2, below_drewN hbX _⟩
            · have d1 : (ek == 4) = false := by simpa using u1
              have d1' : (ek != 4) = true := by simpa using u1
              have d9 : (!(ek == 4)) = true := by simpa using u1
              have hany2 := Lib.hid (any_tk hany.out hw0.out (waitB_not (by dsimp only; omega)))
              clear hany
              go_quiet (fail)
              go_wp2_with fail
              go_roundg g2
              case measure => omega
              case rel => exact ⟨k + 1, by omega, by go_num, hany2, below_drewN hbX _⟩
  · rw [he] at hck
    unfold GkEnd
    go_enter Try.func28, Try.ntmps28
    go_wp2_with fail
    refine hck.mono ?_
    rintro e w1 ⟨rfl, hb⟩
    clear hck hr
    generalize hat : atL l = at0
    go_wp2_with fail
    try rw [Exit.noGoto_ret]
    go_ret2
    exact ⟨at0, 15, rfl, .inl ⟨he, hat.symm, rfl⟩, hb⟩
theorem rgcheck_at (l : List Ev) (A : Option Addr) (n c : Nat) (w : World) (hr : Hid (Reads w w.heap.size 4 A n (evs l))) (hn : n ≤ 65536) (hw : Hid (WfE l)) :
    Calls Try.prog 28 #[.slice A n c] w (CkRes (gAt l) (gEr l) w) := (rgcheck_end l A n c w hr hn hw).mono fun _ _ h => gk_res h
end Go.Proofs.Ythkppihfdlmhgaa
