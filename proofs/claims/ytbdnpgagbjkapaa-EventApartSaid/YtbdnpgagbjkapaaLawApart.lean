/- The law EventApart, walked (printed by gen_lawapart.py). -/
import Derived.Test.YtbdnpgagbjkapaaLawThreads
namespace Go.Proofs.Ytbdnpgagbjkapaa
open Go Go.RowKit
set_option linter.unusedVariables false

theorem ins_open {l : List Ev} (h : FineTo l l.length) {t : Int} (ht : ¬ t < -1) {i : Nat} {o : Sec} (ho : ((secsK 1 l).filterMap (openS t))[i]? = some o) : insR l o.thread t = (o, true, 0) := by
  obtain ⟨h1, h2⟩ := ap7 h ho
  unfold insR
  rw [if_pos h, if_pos h1, if_neg ht, h2]

set_option maxRecDepth 100000 in
set_option maxHeartbeats 16000000 in
theorem apart_core (t : Int) (A : Option Addr) (n c : Nat) (l : List Ev) (w : World) (hr : Hid (Reads w w.heap.size 4 A n (evs l))) (hnc : n ≤ c) (hcap : c ≤ 9223372036854775807) :
    Calls Try.prog 5 #[.slice A n c, .int .i64 t] w fun e w' => e = .returned (.bool true) ∧ Below w.heap.size w w' := by
  have hLn := take_len80 l
  go_enter Try.func5, Try.ntmps5
  go_wp2_with fail
  refine (few_at l A n c _ hr hnc hcap).mono ?_
  rintro e w1 ⟨A1, N, c1, rfl, hN, ho, hb⟩
  obtain ⟨i1, k1, k1'⟩ := own_reads ho
  have hb1 := Lib.hid hb
  clear hr hb ho
  generalize l.take 80 = L at *
  have hNH : Hid (L.length = N) := hN.symm
  rw [← hN] at hLn
  clear hN
  rcases errL_cases L with ⟨hf0, he0⟩ | ⟨hf0, he0⟩
  · have hf := Lib.hid hf0
    have hS := secL_fine hf0 1
    have hW := secL_fine hf0 3
    have hl1 := secsK_len 1 L
    have hl3 := secsK_len 3 L
    rw [hNH.out] at hl1 hl3
    go_wp2_with fail
    refine (sections_at L A1 N c1 w1 i1 (by omega)).mono ?_
    rintro e w2 ⟨As, n1, cs, hE, hn1, ho, hb⟩
    rw [he0] at hE
    subst hE
    rw [hS] at hn1 ho
    obtain ⟨s2, ks, ks'⟩ := own_reads ho
    have hb2 := below_on hb1 hb
    have i2 := reads_on i1 hb
    have hn1b : n1 ≤ 80 := by omega
    clear ho hb hb1 i1 hS hn1
    go_wp2_with fail
    refine (waits_at L A1 N c1 w2 i2 (by omega)).mono ?_
    rintro e w3 ⟨Aw, n2, cw, hE, hn2, ho, hb⟩
    rw [he0] at hE
    subst hE
    rw [hW] at hn2 ho
    obtain ⟨v3, kw, kw'⟩ := own_reads ho
    have hb3 := below_on hb2 hb
    have i3 := reads_on i2 hb
    have s3 := reads_on s2 hb
    have hn2b : n2 ≤ 80 := by omega
    have hHE := Lib.hid he0
    clear ho hb hb2 i2 s2 hW hn2 hf0 he0 hl1 hl3
    go_wp2_with fail
    go_loopg [9] n1 (fun g i wr => ∃ k : Nat, k + g = n1 ∧ i = .int .i64 k ∧ Hid (Below w3.heap.size w3 wr))
    case atStart => exact ⟨0, by omega, rfl, Below.refl _ _⟩
    case round =>
      obtain ⟨a, ha, rfl, hbel⟩ := hrel
      cases gk with
      | zero =>
        as_aux_lemma =>
          obtain rfl : n1 = a := by omega
          have hbs4 := hbel
          clear hbel
          go_wp2_with fail
          go_loopg [12] n2 (fun g i wr => ∃ k : Nat, k + g = n2 ∧ i = .int .i64 k ∧ Hid (Below w3.heap.size w3 wr))
          case atStart => exact ⟨0, by omega, rfl, hbs4.out⟩
          case round =>
            obtain ⟨a, ha, rfl, hbel⟩ := hrel
            cases gk with
            | zero =>
              as_aux_lemma =>
                obtain rfl : n2 = a := by omega
                have hi4 := reads_on i3 hbel.out
                by_cases ht : t < -1
                · have hz : opnL L t = [] := by unfold opnL; rw [if_neg (fun h => h.2 ht)]
                  have hz2 : lookEr L t = 3 := by unfold lookEr; rw [if_pos hf.out, if_pos ht]
                  have ht2 : ¬ (-1 ≤ t) := by omega
                  have ht3 : decide (-1 ≤ t) = false := by simp; omega
                  go_wp2_with fail
                  refine (open_at L A1 N c1 wr hi4 (by omega) t).mono ?_
                  rintro e w4 ⟨Ao, n3, co, hE, hn3, ho, hb⟩
                  rw [hz2] at hE
                  subst hE
                  rw [hz] at hn3
                  dsimp only [List.length_nil] at hn3
                  subst hn3
                  have hb4 := below_on (below_on hb3 hbel.out) hb
                  clear hb ho hbel hi4 hz hz2
                  go_wp2_with fail
                  go_loopg [16] 1 (fun g i wr => i = .int .i64 0 ∧ wr = w4)
                  case atStart => exact ⟨rfl, rfl⟩
                  case round =>
                    obtain ⟨rfl, rfl⟩ := hrel
                    go_wp2_with fail
                    refine (awake_any _).mono ?_
                    rintro e w9 ⟨rfl, hb⟩
                    have hbe := below_on hb4 hb
                    clear hb
                    go_wp2_with fail
                    go_ret
                    exact ⟨rfl, hbe.out⟩
                · have hz := opnL_fine hf.out ht
                  have hz2 := lookEr_fine hf.out ht
                  have ht2 : -1 ≤ t := by omega
                  have hT : Hid (¬ t < -1) := Lib.hid ht
                  have hl4 := Nat.le_trans (List.length_filterMap_le (openS t) (secsK 1 L)) (secsK_len 1 L)
                  rw [hNH.out] at hl4
                  go_wp2_with fail
                  refine (open_at L A1 N c1 wr hi4 (by omega) t).mono ?_
                  rintro e w4 ⟨Ao, n3, co, hE, hn3, ho, hb⟩
                  rw [hz2] at hE
                  subst hE
                  rw [hz] at hn3 ho
                  obtain ⟨o4, ko, ko'⟩ := own_reads ho
                  have hbo := below_on hbel hb
                  have hn3b : n3 ≤ 80 := by omega
                  clear hb ho hbel hi4 hz hz2 hn3 hl4 ht
                  go_wp2_with fail
                  go_loopg [16] n3 (fun g i wr => ∃ k : Nat, k + g = n3 ∧ i = .int .i64 k ∧ Hid (Below w4.heap.size w4 wr))
                  case atStart => exact ⟨0, by omega, rfl, Below.refl _ _⟩
                  case round =>
                    obtain ⟨a, ha, rfl, hbel⟩ := hrel
                    cases gk with
                    | zero =>
                      as_aux_lemma =>
                        obtain rfl : n3 = a := by omega
                        go_wp2_with fail
                        refine (awake_any _).mono ?_
                        rintro e w9 ⟨rfl, hb⟩
                        have hbe := below_on (below_on (below_on hb3 hbo.out) hbel.out) hb
                        clear hb
                        go_wp2_with fail
                        go_ret
                        exact ⟨rfl, hbe.out⟩
                    | succ g =>
                      as_aux_lemma =>
                        have ss := reads_on o4 hbel.out
                        obtain ⟨bs, os, rfl, _⟩ := reads_head ss.out (by omega) (by decide)
                        obtain ⟨⟨it, iv, en, ex⟩, iE, x0, x1, x2, x3⟩ := sec_at ss.out (show a < n3 by omega)
                        have hIE := Lib.hid iE
                        clear ss iE x0 x1 x2 x3
                        go_wp2_with fail
                        go_loopg [17] a (fun g i wr => ∃ k : Nat, k + g = a ∧ i = .int .i64 k ∧ Hid (Below w4.heap.size w4 wr))
                        case atStart => exact ⟨0, by omega, rfl, hbel.out⟩
                        case round =>
                          obtain ⟨k, hk, rfl, hbel2⟩ := hrel
                          cases gk with
                          | zero =>
                            as_aux_lemma =>
                              obtain rfl : a = k := by omega
                              have ss := reads_on o4 hbel2.out
                              obtain ⟨xs, xE, x0, x1, x2, x3⟩ := sec_at ss.out (show a < n3 by omega)
                              obtain rfl := Option.some.inj (hIE.out.symm.trans xE)
                              clear xE
                              dsimp only at x0 x1 x2 x3
                              have hi5 := reads_on i3 (hbo.out.trans (hbel2.out.mono hbo.out.size))
                              have hp7 := Lib.hid (ins_open hf.out (show ¬ t < -1 by have := hT.out; omega) hIE.out)
                              have a0' : (0 : Int) ≤ (a : Int) := by omega
                              have a1' : (a : Int) < (n3 : Int) := by omega
                              go_wp2_with fail
                              refine (inside_at L A1 N c1 wr hi5 (by omega) it t).mono ?_
                              rintro e w8 ⟨hE, hb⟩
                              rw [hp7.out] at hE
                              dsimp only at hE
                              subst hE
                              have hal := (Below.refl _ w8).alloc (Nat.le_refl _) (.cells #[.int .i64 it, .int .u64 iv, .int .i64 en, .int .i64 ex] 41)
                              have hb8 := below_on hbel2 (hb.trans (hal.mono hb.size))
                              have ss8 := reads_on o4 hb8.out
                              clear ss hi5 x0 x1 x2 x3 hbel2 hp7
                              obtain ⟨xs, xE, x0, x1, x2, x3⟩ := sec_at ss8.out (show a < n3 by omega)
                              obtain rfl := Option.some.inj (hIE.out.symm.trans xE)
                              clear xE
                              dsimp only at x0 x1 x2 x3
                              have hB := Blk.new w8 41 #[.int .i64 it, .int .u64 iv, .int .i64 en, .int .i64 ex]
                              have z0 := hB.cell 0
                              have z1 := hB.cell 1
                              have z2 := hB.cell 2
                              have z3 := hB.cell 3
                              simp only [List.getElem?_toArray, List.getElem?_cons_zero, List.getElem?_cons_succ] at z0 z1 z2 z3
                              have heq : ∀ w, (Op.equalIn 10000 41 (.agg #[.int .i64 it, .int .u64 iv, .int .i64 en, .int .i64 ex]) (.agg #[.int .i64 it, .int .u64 iv, .int .i64 en, .int .i64 ex])).run Try.prog w = .ok true w := fun w => by rw [eqSe]; simp
                              clear hB hal hb ss8
                              go_wp2_with fail
                              go_quiet (fail)
                              go_wp2_with fail
                              go_roundg g
                              case measure => omega
                              case rel => exact ⟨a + 1, by omega, by go_num, below_drewN hb8.out _⟩
                          | succ g2 =>
                            as_aux_lemma =>
                              have ss := reads_on o4 hbel2.out
                              obtain ⟨xs, xE, x0, x1, x2, x3⟩ := sec_at ss.out (show a < n3 by omega)
                              obtain rfl := Option.some.inj (hIE.out.symm.trans xE)
                              clear xE
                              dsimp only at x0 x1 x2 x3
                              obtain ⟨⟨ut, uv, un, ux⟩, uE, y0, y1, y2, y3⟩ := sec_at ss.out (show k < n3 by omega)
                              have p6 := ap6 hf.out uE hIE.out (show k < a by omega)
                              dsimp only at p6 y0 y1 y2 y3
                              clear ss uE
                              have a0' : (0 : Int) ≤ (a : Int) := by omega
                              have a1' : (a : Int) < (n3 : Int) := by omega
                              have k0' : (0 : Int) ≤ (k : Int) := by omega
                              have k1' : (k : Int) < (n3 : Int) := by omega
                              have d3 : (ut == it) = false := by simpa using p6
                              clear p6
                              go_wp2_with fail
                              go_quiet (fail)
                              go_wp2_with fail
                              go_roundg g2
                              case measure => omega
                              case rel => exact ⟨k + 1, by omega, by go_num, below_drewN hbel2.out _⟩
            | succ g =>
              as_aux_lemma =>
                clear hbs4
                have ss := reads_on v3 hbel.out
                obtain ⟨bs, os, rfl, _⟩ := reads_head ss.out (by omega) (by decide)
                obtain ⟨⟨it, iv, en, ex⟩, iE, x0, x1, x2, x3⟩ := sec_at ss.out (show a < n2 by omega)
                have p1 := ap4 hf.out iE
                have hIE := Lib.hid iE
                dsimp only at p1 x0 x1 x2 x3
                clear ss iE
                have a0' : (0 : Int) ≤ (a : Int) := by omega
                have a1' : (a : Int) < (n2 : Int) := by omega
                by_cases hx : 0 ≤ ex
                case' pos =>
                  have d1 : decide (ex < en) = false := by simp; omega
                  have d2 : ¬ (ex < en) := by omega
                case' neg =>
                  have d1 : decide (0 ≤ ex) = false := by simp; omega
                  have d2 := hx
                all_goals
                  clear p1
                  go_wp2_with fail
                  go_quiet (fail)
                  go_wp2_with fail
                  clear d1 d2 hx x0 x1 x2 x3
                  go_loopg [13] a (fun g i wr => ∃ k : Nat, k + g = a ∧ i = .int .i64 k ∧ Hid (Below w3.heap.size w3 wr))
                  case atStart => exact ⟨0, by omega, rfl, below_drewN hbel.out _⟩
                  case round =>
                    obtain ⟨k, hk, rfl, hbel2⟩ := hrel
                    cases gk with
                    | zero =>
                      as_aux_lemma =>
                        obtain rfl : a = k := by omega
                        go_wp2_with fail
                        go_roundg g
                        case measure => omega
                        case rel => exact ⟨a + 1, by omega, by go_num, hbel2⟩
                    | succ g2 =>
                      as_aux_lemma =>
                        have ss := reads_on v3 hbel2.out
                        obtain ⟨xs, xE, x0, x1, x2, x3⟩ := sec_at ss.out (show a < n2 by omega)
                        obtain rfl := Option.some.inj (hIE.out.symm.trans xE)
                        clear xE
                        dsimp only at x0 x1 x2 x3
                        obtain ⟨⟨ut, uv, un, ux⟩, uE, y0, y1, y2, y3⟩ := sec_at ss.out (show k < n2 by omega)
                        have p2 := ap2 hf.out (.inr rfl) uE hIE.out (show k < a by omega)
                        dsimp only at p2 y0 y1 y2 y3
                        clear ss uE
                        have a0' : (0 : Int) ≤ (a : Int) := by omega
                        have a1' : (a : Int) < (n2 : Int) := by omega
                        have k0' : (0 : Int) ≤ (k : Int) := by omega
                        have k1' : (k : Int) < (n2 : Int) := by omega
                        by_cases ht : ut = it
                        case' pos =>
                          have q1 : 0 ≤ ux := by omega
                          have q2 : ux < en := by omega
                          have d1 : decide (ux < 0) = false := by simp; omega
                          have d2 : decide (en ≤ ux) = false := by simp; omega
                          have d3 : (ut == it) = true := by simpa using ht
                        case' neg =>
                          have d3 : (ut == it) = false := by simpa using ht
                        all_goals
                          clear p2 ht
                          go_wp2_with fail
                          go_quiet (fail)
                          go_wp2_with fail
                          go_roundg g2
                          case measure => omega
                          case rel => exact ⟨k + 1, by omega, by go_num, below_drewN hbel2.out _⟩
      | succ g =>
        as_aux_lemma =>
          have ss := reads_on s3 hbel.out
          obtain ⟨bs, os, rfl, _⟩ := reads_head ss.out (by omega) (by decide)
          obtain ⟨⟨it, iv, en, ex⟩, iE, x0, x1, x2, x3⟩ := sec_at ss.out (show a < n1 by omega)
          have p1 := ap1 hf.out iE
          have hIE := Lib.hid iE
          dsimp only at p1 x0 x1 x2 x3
          clear ss iE
          have a0' : (0 : Int) ≤ (a : Int) := by omega
          have a1' : (a : Int) < (n1 : Int) := by omega
          by_cases hx : 0 ≤ ex
          case' pos =>
            have d1 : decide (ex ≤ en) = false := by simp; omega
            have d2 : ¬ (ex ≤ en) := by omega
          case' neg =>
            have d1 : decide (0 ≤ ex) = false := by simp; omega
            have d2 := hx
          all_goals
            clear p1
            go_wp2_with fail
            go_quiet (fail)
            go_wp2_with fail
            clear d1 d2 hx x0 x1 x2 x3
            go_loopg [10] a (fun g i wr => ∃ k : Nat, k + g = a ∧ i = .int .i64 k ∧ Hid (Below w3.heap.size w3 wr))
            case atStart => exact ⟨0, by omega, rfl, below_drewN hbel.out _⟩
            case round =>
              obtain ⟨k, hk, rfl, hbel2⟩ := hrel
              cases gk with
              | zero =>
                as_aux_lemma =>
                  obtain rfl : a = k := by omega
                  have hbs := hbel2
                  clear hbel2
                  go_wp2_with fail
                  go_loopg [11] n2 (fun g i wr => ∃ k : Nat, k + g = n2 ∧ i = .int .i64 k ∧ Hid (Below w3.heap.size w3 wr))
                  case atStart => exact ⟨0, by omega, rfl, hbs.out⟩
                  case round =>
                    obtain ⟨k, hk, rfl, hbel3⟩ := hrel
                    cases gk with
                    | zero =>
                      as_aux_lemma =>
                        obtain rfl : n2 = k := by omega
                        go_wp2_with fail
                        go_roundg g
                        case measure => omega
                        case rel => exact ⟨a + 1, by omega, by go_num, hbel3⟩
                    | succ g3 =>
                      as_aux_lemma =>
                        clear hbs
                        have ss := reads_on s3 hbel3.out
                        obtain ⟨xs, xE, x0, x1, x2, x3⟩ := sec_at ss.out (show a < n1 by omega)
                        obtain rfl := Option.some.inj (hIE.out.symm.trans xE)
                        clear xE
                        dsimp only at x0 x1 x2 x3
                        have ws := reads_on v3 hbel3.out
                        obtain ⟨bw, ow, rfl, _⟩ := reads_head ws.out (by omega) (by decide)
                        obtain ⟨⟨ut, uv, un, ux⟩, uE, y0, y1, y2, y3⟩ := sec_at ws.out (show k < n2 by omega)
                        have p3 := ap3 hf.out uE hIE.out
                        dsimp only at p3 y0 y1 y2 y3
                        clear ss ws uE
                        have a0' : (0 : Int) ≤ (a : Int) := by omega
                        have a1' : (a : Int) < (n1 : Int) := by omega
                        have k0' : (0 : Int) ≤ (k : Int) := by omega
                        have k1' : (k : Int) < (n2 : Int) := by omega
                        by_cases ht : ut = it
                        case' neg =>
                          have d3 : (ut == it) = false := by simpa using ht
                        case' pos =>
                          have d3 : (ut == it) = true := by simpa using ht
                          by_cases h1 : ex < 0
                          case' pos =>
                            have q1 : 0 ≤ ux := by omega
                            have q2 : ux < en := by omega
                            have d4 : decide (ux < 0) = false := by simp; omega
                            have d5 : decide (en ≤ ux) = false := by simp; omega
                          case' neg =>
                            have d6 : decide (ex < 0) = false := by simp; omega
                            have d6' : 0 ≤ ex := by omega
                            by_cases h2 : un ≤ ex
                            case' pos =>
                              have q1 : 0 ≤ ux := by omega
                              have q2 : ux < en := by omega
                              have d4 : decide (ux < 0) = false := by simp; omega
                              have d5 : decide (en ≤ ux) = false := by simp; omega
                            case' neg =>
                              have d7 : decide (un ≤ ex) = false := by simp; omega
                        all_goals
                          clear p3 ht
                          go_wp2_with fail
                          go_quiet (fail)
                          go_wp2_with fail
                          go_roundg g3
                          case measure => omega
                          case rel => exact ⟨k + 1, by omega, by go_num, below_drewN hbel3.out _⟩
              | succ g2 =>
                as_aux_lemma =>
                  have ss := reads_on s3 hbel2.out
                  obtain ⟨xs, xE, x0, x1, x2, x3⟩ := sec_at ss.out (show a < n1 by omega)
                  obtain rfl := Option.some.inj (hIE.out.symm.trans xE)
                  clear xE
                  dsimp only at x0 x1 x2 x3
                  obtain ⟨⟨ut, uv, un, ux⟩, uE, y0, y1, y2, y3⟩ := sec_at ss.out (show k < n1 by omega)
                  have p2 := ap2 hf.out (.inl rfl) uE hIE.out (show k < a by omega)
                  dsimp only at p2 y0 y1 y2 y3
                  clear ss uE
                  have a0' : (0 : Int) ≤ (a : Int) := by omega
                  have a1' : (a : Int) < (n1 : Int) := by omega
                  have k0' : (0 : Int) ≤ (k : Int) := by omega
                  have k1' : (k : Int) < (n1 : Int) := by omega
                  by_cases ht : ut = it
                  case' pos =>
                    have q1 : 0 ≤ ux := by omega
                    have q2 : ux < en := by omega
                    have d1 : decide (ux < 0) = false := by simp; omega
                    have d2 : decide (en ≤ ux) = false := by simp; omega
                    have d3 : (ut == it) = true := by simpa using ht
                  case' neg =>
                    have d3 : (ut == it) = false := by simpa using ht
                  all_goals
                    clear p2 ht
                    go_wp2_with fail
                    go_quiet (fail)
                    go_wp2_with fail
                    go_roundg g2
                    case measure => omega
                    case rel => exact ⟨k + 1, by omega, by go_num, below_drewN hbel2.out _⟩
  · have hz1 : secL 1 L = [] := by unfold secL; rw [if_neg hf0]
    have hz3 : secL 3 L = [] := by unfold secL; rw [if_neg hf0]
    go_wp2_with fail
    refine (sections_at L A1 N c1 w1 i1 (by omega)).mono ?_
    rintro e w2 ⟨As, n1, cs, hE, hn1, ho, hb⟩
    rw [he0] at hE
    subst hE
    rw [hz1] at hn1
    dsimp only [List.length_nil] at hn1
    subst hn1
    have hb2 := below_on hb1 hb
    have i2 := reads_on i1 hb
    clear ho hb hb1 i1
    go_wp2_with fail
    refine (waits_at L A1 N c1 w2 i2 (by omega)).mono ?_
    rintro e w3 ⟨Aw, n2, cw, hE, hn2, ho, hb⟩
    rw [he0] at hE
    subst hE
    rw [hz3] at hn2
    dsimp only [List.length_nil] at hn2
    subst hn2
    have hb3 := below_on hb2 hb
    clear ho hb hb2 i2 hz1 hz3 hf0 he0
    go_wp2_with fail
    refine (awake_any _).mono ?_
    rintro e w9 ⟨rfl, hb⟩
    have hbe := below_on hb3 hb
    clear hb
    go_wp2_with fail
    go_ret
    exact ⟨rfl, hbe.out⟩
theorem apart_law (A : Option Addr) (n c : Nat) (l : List Ev) (t : Int) (w : World) (hI : IsEvents w A n c l) (wt : (Lit.int .i64 t).wf = true) :
    Calls Try.prog 5 #[.slice A n c, .int .i64 t] w fun e w' => e = .returned (.bool true) ∧ Below w.heap.size w w' :=
  apart_core t A n c l w hI.reads hI.le (by have := hI.cap; unfold maxLen at this; exact this)
end Go.Proofs.Ytbdnpgagbjkapaa
