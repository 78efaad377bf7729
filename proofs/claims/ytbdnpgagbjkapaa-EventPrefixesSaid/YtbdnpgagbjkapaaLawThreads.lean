/- The law EventThreads, walked. -/
import Derived.Test.YtbdnpgagbjkapaaAwake
import Derived.Test.YtbdnpgagbjkapaaWrt
import Derived.Test.YtbdnpgagbjkapaaApartP
import Derived.Test.YtbdnpgagbjkapaaOpenE
import Derived.Deep.LoopGhost
namespace Go.Proofs.Ytbdnpgagbjkapaa
open Go Go.RowKit
set_option linter.unusedVariables false

theorem errL_of {l : List Ev} (h : errL l = 0) (t : Int) : errL (ofL l t) = 0 := by
  have hf : FineTo l l.length := by
    unfold errL at h
    by_cases hc : FineTo l l.length
    · exact hc
    · rw [if_neg hc] at h; cases h
  exact (at_fine (fine_of hf t)).2
theorem errL_cases (l : List Ev) : (FineTo l l.length ∧ errL l = 0) ∨ (¬ FineTo l l.length ∧ errL l = 15) := by
  unfold errL
  by_cases hc : FineTo l l.length
  · exact .inl ⟨hc, if_pos hc⟩
  · exact .inr ⟨hc, if_neg hc⟩
theorem of_thread {l : List Ev} {t : Int} {k : Nat} {e : Ev} (h : (ofL l t)[k]? = some e) : e.thread = t := by
  have := (List.mem_filter.1 (List.mem_of_getElem? h)).2
  simpa using this

set_option maxRecDepth 100000 in
set_option maxHeartbeats 8000000 in
theorem threads_core (A : Option Addr) (n c : Nat) (l : List Ev) (w : World) (hr : Hid (Reads w w.heap.size 4 A n (evs l))) (hnc : n ≤ c) (hcap : c ≤ 9223372036854775807) :
    Calls Try.prog 8 #[.slice A n c] w fun e w' => e = .returned (.bool true) ∧ Below w.heap.size w w' := by
  have hLn := take_len80 l
  go_enter Try.func8, Try.ntmps8
  go_wp2_with fail
  refine (few_at l A n c _ hr hnc hcap).mono ?_
  rintro e w1 ⟨A1, N, c1, rfl, hN, ho, hb⟩
  obtain ⟨hi1, k1, k1'⟩ := own_reads ho
  have hb1 := Lib.hid hb
  clear hr hb ho
  generalize l.take 80 = L at *
  have hNH : Hid (L.length = N) := hN.symm
  rw [← hN] at hLn
  clear hN
  go_wp2_with fail
  refine (check_at L A1 N c1 w1 hi1 (by omega)).mono ?_
  rintro e w2 ⟨rfl, hb⟩
  have hb2 := below_on hb1 hb
  have hi2 := reads_on hi1 hb
  clear hb hb1 hi1
  rcases errL_cases L with ⟨hf0, he0⟩ | ⟨hf0, he0⟩
  · have hf := Lib.hid hf0
    have he := Lib.hid he0
    rw [he0]
    clear hf0 he0
    generalize atL L = at0
    go_wp2_with fail
    go_loopg [5, 6] 64 (fun g s i wr => ∃ t : Nat, t + g = 64 ∧ i = .int .i64 t ∧ s = .int .i64 (cntTo L t) ∧ Hid (Below w2.heap.size w2 wr))
    case atStart => exact ⟨0, by omega, rfl, by rw [cntTo_zero]; rfl, Below.refl _ _⟩
    case round =>
      obtain ⟨t, ht, rfl, rfl, hbel⟩ := hrel
      cases gk with
      | zero =>
        obtain rfl : t = 64 := by omega
        have hall : cntTo L 64 = N := (cntTo_all hf.out).trans hNH.out
        rw [hall]
        clear hall
        go_wp2_with fail
        refine (awake_any _).mono ?_
        rintro e w4 ⟨rfl, hb⟩
        have hbe := below_on (below_on hb2 hbel.out) hb
        clear hb
        go_wp2_with fail
        go_ret
        exact ⟨rfl, hbe.out⟩
      | succ g =>
        have ht2 : (t : Int) < 64 := by omega
        have hi3 := reads_on hi2 hbel.out
        have hsum := Lib.hid (cntTo_succ L t)
        have hle := cntTo_le L t
        rw [hNH.out] at hle
        have hol := ofL_len L t
        rw [hNH.out] at hol
        go_wp2_with fail
        refine (of_at L A1 N c1 wr hi3 (by omega) t).mono ?_
        rintro e w3 ⟨Ao, m, co, rfl, hm, ho, hb⟩
        obtain ⟨ho3, ko, ko'⟩ := own_reads ho
        have hb3 := below_on hbel hb
        have hM : Hid ((ofL L t).length = m) := hm.symm
        rw [← hm] at hol
        clear hb hbel hi3 ho hm
        generalize cntTo L t = s0 at *
        go_wp2_with fail
        have hb3s := hb3
        clear hb3
        go_loopg [8] m (fun g i wr => ∃ k : Nat, k + g = m ∧ i = .int .i64 k ∧ Hid (Below w3.heap.size w3 wr))
        case atStart => exact ⟨0, by omega, rfl, Below.refl _ _⟩
        case round =>
          obtain ⟨k, hk, rfl, hbel⟩ := hrel
          cases gk with
          | zero =>
            obtain rfl : m = k := by omega
            have ho4 := reads_on ho3 hbel.out
            have hb4 := below_on hb3s hbel.out
            clear hbel
            go_wp2_with fail
            refine (check_at (ofL L t) Ao m co wr ho4 (by omega)).mono ?_
            rintro e w5 ⟨hE, hb⟩
            rw [errL_of he.out t] at hE
            subst hE
            have hb5 := below_on hb4 hb
            clear hb hb4 ho4
            generalize atL (ofL L t) = at1
            go_wp2_with fail
            go_roundg g
            case measure => omega
            case rel => exact ⟨t + 1, by omega, by go_num, by rw [hsum.out]; have := hM.out; unfold ofL at this; rw [this]; go_num, hb5⟩
          | succ g2 =>
            have ho4 := reads_on ho3 hbel.out
            obtain ⟨b, o, rfl, hbB⟩ := reads_head ho4.out (by omega) (by decide)
            obtain ⟨⟨es, et, ek, ev⟩, he1, c0, c1', c2, c3⟩ := ev_at ho4.out (show k < m by omega)
            obtain rfl : (t : Int) = et := (of_thread he1).symm
            dsimp only at c0 c1' c2 c3
            have k0 : (0 : Int) ≤ (k : Int) := by omega
            have k1 : (k : Int) < (m : Int) := by omega
            cases k with
            | zero =>
              clear he1
              go_wp2_with fail
              go_quiet (fail)
              go_wp2_with fail
              go_roundg g2
              case measure => omega
              case rel => exact ⟨0 + 1, by omega, by go_num, below_drewN hbel.out _⟩
            | succ j =>
              obtain ⟨⟨ps, pt, pk, pv⟩, he2, d0, d1, d2, d3⟩ := ev_at ho4.out (show j < m by omega)
              dsimp only at d0 d1 d2 d3
              have hor := (of_order hf.out he2 he1).1
              dsimp only at hor
              have hor2 : decide (es < ps) = false := by simp; omega
              clear he1 he2
              have j0 : (0 : Int) ≤ (j : Int) := by omega
              have j1 : (j : Int) < (m : Int) := by omega
              have hw : IntKind.i64.wrap (((j + 1 : Nat) : Int) - 1) = (j : Int) := by
                rw [show ((j + 1 : Nat) : Int) - 1 = (j : Int) by omega]
                exact IntWalk.i64_in _ (by omega)
              go_wp2_with fail
              go_quiet (fail)
              go_wp2_with fail
              go_roundg g2
              case measure => omega
              case rel => exact ⟨j + 1 + 1, by omega, by go_num, below_drewN hbel.out _⟩
  · have hf := Lib.hid hf0
    rw [he0]
    clear hf0 he0
    generalize atL L = at0
    go_wp2_with fail
    go_loopg [5, 6] 64 (fun g s i wr => ∃ t : Nat, t + g = 64 ∧ i = .int .i64 t ∧ s = .int .i64 (cntTo L t) ∧ Hid (Below w2.heap.size w2 wr))
    case atStart => exact ⟨0, by omega, rfl, by rw [cntTo_zero]; rfl, Below.refl _ _⟩
    case round =>
      obtain ⟨t, ht, rfl, rfl, hbel⟩ := hrel
      cases gk with
      | zero =>
        obtain rfl : t = 64 := by omega
        have hle := cntTo_le L 64
        rw [hNH.out] at hle
        generalize cntTo L 64 = s0 at *
        by_cases hs : s0 = N
        · subst hs
          go_wp2_with fail
          refine (awake_any _).mono ?_
          rintro e w4 ⟨rfl, hb⟩
          have hbe := below_on (below_on hb2 hbel.out) hb
          clear hb
          go_wp2_with fail
          go_ret
          exact ⟨rfl, hbe.out⟩
        · have hs2 : (s0 : Int) < (N : Int) := by omega
          have hs3 : s0 < N := by omega
          have hs4 : ((s0 : Int) == (N : Int)) = false := by rw [beq_eq_false_iff_ne]; omega
          go_wp2_with fail
          refine (awake_any _).mono ?_
          rintro e w4 ⟨rfl, hb⟩
          have hbe := below_on (below_on hb2 hbel.out) hb
          clear hb
          go_wp2_with fail
          go_ret
          exact ⟨rfl, hbe.out⟩
      | succ g =>
        have ht2 : (t : Int) < 64 := by omega
        have hi3 := reads_on hi2 hbel.out
        have hsum := Lib.hid (cntTo_succ L t)
        have hle := cntTo_le L t
        rw [hNH.out] at hle
        have hol := ofL_len L t
        rw [hNH.out] at hol
        go_wp2_with fail
        refine (of_at L A1 N c1 wr hi3 (by omega) t).mono ?_
        rintro e w3 ⟨Ao, m, co, rfl, hm, ho, hb⟩
        obtain ⟨ho3, ko, ko'⟩ := own_reads ho
        have hb3 := below_on hbel hb
        have hM : Hid ((ofL L t).length = m) := hm.symm
        rw [← hm] at hol
        clear hb hbel hi3 ho hm
        generalize cntTo L t = s0 at *
        go_wp2_with fail
        have hb3s := hb3
        clear hb3
        go_loopg [8] m (fun g i wr => ∃ k : Nat, k + g = m ∧ i = .int .i64 k ∧ Hid (Below w3.heap.size w3 wr))
        case atStart => exact ⟨0, by omega, rfl, Below.refl _ _⟩
        case round =>
          obtain ⟨k, hk, rfl, hbel⟩ := hrel
          cases gk with
          | zero =>
            obtain rfl : m = k := by omega
            have ho4 := reads_on ho3 hbel.out
            have hb4 := below_on hb3s hbel.out
            clear hbel
            go_wp2_with fail
            refine (check_at (ofL L t) Ao m co wr ho4 (by omega)).mono ?_
            rintro e w5 ⟨rfl, hb⟩
            have hb5 := below_on hb4 hb
            clear hb hb4 ho4
            generalize atL (ofL L t) = at1
            generalize errL (ofL L t) = at2
            go_wp2_with fail
            go_roundg g
            case measure => omega
            case rel => exact ⟨t + 1, by omega, by go_num, by rw [hsum.out]; have := hM.out; unfold ofL at this; rw [this]; go_num, hb5⟩
          | succ g2 =>
            have ho4 := reads_on ho3 hbel.out
            obtain ⟨b, o, rfl, hbB⟩ := reads_head ho4.out (by omega) (by decide)
            obtain ⟨⟨es, et, ek, ev⟩, he1, c0, c1', c2, c3⟩ := ev_at ho4.out (show k < m by omega)
            obtain rfl : (t : Int) = et := (of_thread he1).symm
            dsimp only at c0 c1' c2 c3
            have k0 : (0 : Int) ≤ (k : Int) := by omega
            have k1 : (k : Int) < (m : Int) := by omega
            clear he1
            by_cases hk0 : 0 < k
            · have hk1 : (0 : Int) < (k : Int) := by omega
              go_wp2_with fail
              go_quiet (fail)
              go_wp2_with fail
              go_roundg g2
              case measure => omega
              case rel => exact ⟨k + 1, by omega, by go_num, below_drewN hbel.out _⟩
            · obtain rfl : k = 0 := by omega
              go_wp2_with fail
              go_quiet (fail)
              go_wp2_with fail
              go_roundg g2
              case measure => omega
              case rel => exact ⟨0 + 1, by omega, by go_num, below_drewN hbel.out _⟩
theorem threads_law (A : Option Addr) (n c : Nat) (l : List Ev) (w : World) (hI : IsEvents w A n c l) :
    Calls Try.prog 8 #[.slice A n c] w fun e w' => e = .returned (.bool true) ∧ Below w.heap.size w w' :=
  threads_core A n c l w hI.reads hI.le (by have := hI.cap; unfold maxLen at this; exact this)
end Go.Proofs.Ytbdnpgagbjkapaa
