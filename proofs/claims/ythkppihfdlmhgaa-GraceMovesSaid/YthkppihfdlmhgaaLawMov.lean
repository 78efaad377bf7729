/- The law GraceMoves, walked (printed by gen_lawmov.py). -/
import Derived.Test.YthkppihfdlmhgaaLawOver
import Derived.Test.YthkppihfdlmhgaaMovP
namespace Go.Proofs.Ythkppihfdlmhgaa
open Go Go.RowKit
set_option linter.unusedVariables false

theorem tmod_64 (k : Nat) : Int.tmod (k : Int) 64 = ((k % 64 : Nat) : Int) := by
  rw [Int.tmod_eq_emod_of_nonneg (by omega)]
  rfl
theorem bit_or {x : Int} (h0 : 0 ≤ x) (h1 : x < 18446744073709551616) : bits BinOp.and IntKind.u64 x 1 = 0 ∨ bits BinOp.and IntKind.u64 x 1 = 1 := by
  rw [and_one h0 h1]
  omega
theorem mv_of (e : Ev) (x : Int) (h0 : 4 * e.step + 3 ≤ x) (h1 : x ≤ 4 * e.step + 5) (h2 : e.kind = 1 ∨ e.kind = 3 → x = 4 * e.step + 4) (h3 : e.kind = 4 → 4 * e.step + 4 ≤ x) : Mv e { e with step := x } := ⟨rfl, rfl, rfl, h0, h1, h2, h3⟩
theorem g_casesO (l : List Ev) : gEr l ≠ 0 ∨ (FineTo l l.length ∧ LateTo l l.length ∧ gAt l = 0 ∧ gEr l = 0) := by
  rcases gk_at l with ⟨_, _, h⟩ | ⟨_, _, _, _, _, _, _, h⟩ | h
  · left; rw [h]; decide
  · left; rw [h]; decide
  · exact .inr h
theorem wf_moved {l m : List Ev} (h : Moved l m l.length) (hw : WfE l) (hs : ∀ (j : Nat) (e : Ev), l[j]? = some e → e.step ≤ 1152921504606846976) : WfE m := fun p hp => by
  obtain ⟨j, hj⟩ := List.getElem?_of_mem hp
  have hjl : j < l.length := by rw [← h.len]; exact (List.getElem?_eq_some_iff.1 hj).1
  obtain ⟨e, he, hm⟩ := moved_get h hjl hj
  have h1 := hs j e he
  have h2 := hm.hi
  have h3 := hw e (List.mem_of_getElem? he)
  rw [hm.vl]
  exact ⟨by omega, h3.2⟩

set_option maxRecDepth 100000 in
set_option maxHeartbeats 8000000 in
theorem gmov_core (wh : Int) (A : Option Addr) (n c : Nat) (l : List Ev) (w : World) (hr : Hid (Reads w w.heap.size 4 A n (evs l))) (hnc : n ≤ c) (hc : c ≤ 9223372036854775807) (hw : WfE l) (h0 : 0 ≤ wh) (h1 : wh < 18446744073709551616) :
    Calls Try.prog 5 #[.slice A n c, .int .u64 wh] w fun e w' => e = .returned (.bool true) ∧ Below w.heap.size w w' := by
  obtain ⟨L, hL⟩ : ∃ L, Hid (l.take 80 = L) := ⟨_, rfl⟩
  have hwL := Lib.hid (show WfE L by rw [← hL.out]; exact wf_take hw 80)
  have hlen : Hid (L.length ≤ 80) := by unfold Hid; rw [← hL.out, List.length_take]; omega
  go_enter Try.func5, Try.ntmps5
  have hb0 : Hid (Below w.heap.size w w) := Below.refl _ _
  go_wp2_with fail
  refine (few_at l A n c w hr hnc hc).mono ?_
  rintro e w1 ⟨A1, n1, c1, rfl, hn, ho, hb⟩
  rw [hL.out] at hn ho
  have hm1 : n1 ≤ 80 := by have := hlen.out; omega
  have hn1 := Lib.hid hn
  clear hn
  have hb1 := Lib.hid hb
  have hr1 := (own_reads ho).1
  have ho1 := Lib.hid ho
  clear ho hb hb0 hr
  go_wp2_with fail
  refine (gcheck_at L A1 n1 c1 w1 hr1 (by omega) hwL).mono ?_
  rintro e w2 ⟨rfl, hb⟩
  have hb2 := below_on hb1 hb
  have ho2 : Hid (w2.ownsRow w.heap.size 37 4 (.slice A1 n1 c1) n1 (evs L)) := own_below ho1.out hb
  clear hb hb1 hr1 ho1
  generalize hat : gAt L = at0
  clear hat
  obtain ⟨er, her⟩ : ∃ er, Hid (gEr L = er) := ⟨_, rfl⟩
  rw [her.out]
  go_wp2_with fail
  go_loopg [7] n1 (fun g i wr => ∃ (k : Nat) (M : List Ev), k + g = n1 ∧ i = .int .i64 k ∧ Hid (Moved L M k) ∧ Hid (∀ (j : Nat) (e : Ev), j < k → L[j]? = some e → 0 ≤ e.step ∧ e.step ≤ 1152921504606846976) ∧ Hid (wr.ownsRow w.heap.size 37 4 (.slice A1 n1 c1) n1 (evs M)) ∧ Hid (Below w.heap.size w wr))
  case atStart => exact ⟨0, L, by omega, rfl, moved_zero L, (fun j e h => by omega), ho2, hb2⟩
  case round =>
    clear ho2 hb2
    obtain ⟨k, M, hk, rfl, hmv, hst, hown, hbel⟩ := hrel
    cases gk with
    | zero =>
      obtain rfl : k = n1 := by omega
      as_aux_lemma =>
        have hrM := (own_reads hown.out).1
        have hlk : L.length = k := hn1.out.symm
        have hmvL : Moved L M L.length := by rw [hlk]; exact hmv.out
        have hsL : ∀ (j : Nat) (e : Ev), L[j]? = some e → 0 ≤ e.step ∧ e.step ≤ 1152921504606846976 := fun j e he => hst.out j e (by rw [← hlk]; exact (List.getElem?_eq_some_iff.1 he).1) he
        have hwM := Lib.hid (wf_moved hmvL hwL.out (fun j e he => (hsL j e he).2))
        have hend : Hid (er = 0 → gEr M = 0) := fun h0 => by
          rcases g_casesO L with h | ⟨hf, hl, _, _⟩
          · exact absurd (her.out.trans h0) h
          · exact (moved_ok hmvL hf hl (fun j e he => (hsL j e he).1)).2
        clear hlk hmvL hsL hown hmv hst
        go_wp2_with fail
        refine (gcheck_at M A1 k c1 _ hrM (by omega) hwM).mono ?_
        rintro e w5 ⟨rfl, hb⟩
        have hb5 := below_on hbel hb
        clear hb hbel hrM
        generalize gAt M = at1
        by_cases h0 : er = 0
        · have hm0 := hend.out h0
          rw [hm0]
          subst h0
          clear hend
          go_wp2_with fail
          refine (awake_any _).mono ?_
          rintro e w9 ⟨rfl, hb⟩
          have hb9 := below_on hb5 hb
          clear hb
          go_wp2_with fail
          go_ret
          exact ⟨rfl, hb9.out⟩
        · have h0' : (er == 0) = false := by simpa using h0
          generalize gEr M = em
          clear hend
          go_wp2_with fail
          refine (awake_any _).mono ?_
          rintro e w9 ⟨rfl, hb⟩
          have hb9 := below_on hb5 hb
          clear hb
          go_wp2_with fail
          go_ret
          exact ⟨rfl, hb9.out⟩
    | succ g =>
      obtain ⟨g0, rfl, hgw, hg0⟩ := own_at hown.out (by omega)
      have hkl : k < L.length := by have := hn1.out; omega
      obtain ⟨⟨es, et, ek, ev⟩, hLk⟩ : ∃ e, L[k]? = some e := ⟨_, List.getElem?_eq_getElem hkl⟩
      have hM : M[k]? = some ⟨es, et, ek, ev⟩ := (hmv.out.same k (Nat.le_refl _)).trans hLk
      have hml : M.length = n1 := by rw [hmv.out.len]; exact hn1.out.symm
      have c0 : wr.cell? ⟨g0, k * 4, none⟩ = some (.int .i64 es) := (hown.out.cellAt (k * 4) (by omega)).trans ((evs_at M k _ 0 hM (by decide)).trans rfl)
      have c2 : wr.cell? ⟨g0, k * 4 + 2, none⟩ = some (.int .u8 ek) := (hown.out.cellAt (k * 4 + 2) (by omega)).trans ((evs_at M k _ 2 hM (by decide)).trans rfl)
      have f0 := hown.out.frozenAt (k * 4)
      have k0 : (0 : Int) ≤ (k : Int) := by omega
      have k1 : (k : Int) < (n1 : Int) := by omega
      by_cases hs0 : es < 0
      · as_aux_lemma =>
          have d1 := decide_eq_true hs0
          clear hown hmv hst
          go_wp2_with fail
          refine (awake_any _).mono ?_
          rintro e w9 ⟨rfl, hb⟩
          have hb9 := below_on hbel hb
          clear hb
          go_wp2_with fail
          go_ret
          exact ⟨rfl, hb9.out⟩
      · by_cases hs1' : 1152921504606846976 < es
        · as_aux_lemma =>
            have d1 := decide_eq_false hs0
            have d2 := decide_eq_true hs1'
            clear hown hmv hst
            go_wp2_with fail
            refine (awake_any _).mono ?_
            rintro e w9 ⟨rfl, hb⟩
            have hb9 := below_on hbel hb
            clear hb
            go_wp2_with fail
            go_ret
            exact ⟨rfl, hb9.out⟩
        · have d1 := decide_eq_false hs0
          have d2 := decide_eq_false hs1'
          have hst2 : Hid (∀ (j : Nat) (e : Ev), j < k + 1 → L[j]? = some e → 0 ≤ e.step ∧ e.step ≤ 1152921504606846976) := by
            intro j e hj he
            by_cases hjk : j = k
            · subst hjk
              rw [hLk] at he
              rw [← Option.some.inj he]
              dsimp only
              omega
            · exact hst.out j e (by omega) he
          have m1 : IntKind.i64.wrap (4 * es) = 4 * es := wrap_i64 (by omega) (by omega)
          have m2 : IntKind.i64.wrap (4 * es + 4) = 4 * es + 4 := wrap_i64 (by omega) (by omega)
          have m3 : IntKind.i64.wrap (4 * es + 4 + 1) = 4 * es + 4 + 1 := wrap_i64 (by omega) (by omega)
          have m4 : IntKind.i64.wrap (4 * es + 4 - 1) = 4 * es + 4 - 1 := wrap_i64 (by omega) (by omega)
          have hrem := tmod_64 k
          have hq := set_half h0 h1 (k % 64)
          have hbo := bit_or hq.1 hq.2
          clear hq hst
          have hkc : ek = 4 ∨ ek = 2 ∨ (ek ≠ 4 ∧ ek ≠ 2) := by omega
          rcases hbo with hbo | hbo
          · rcases hkc with rfl | rfl | ⟨z1, z2⟩
            · as_aux_lemma =>
                have hs1 := hown.out.stored (k * 4) (.int .i64 (4 * es + 4))
                have q2 : (wr.setCell ⟨g0, k * 4, none⟩ (.int .i64 (4 * es + 4))).cell? ⟨g0, k * 4, none⟩ = some (.int .i64 (4 * es + 4)) := (hs1.1.cellAt (k * 4) (by omega)).trans (List.getElem?_set_self (by rw [evs_len, hml]; omega))
                have q3 : (wr.setCell ⟨g0, k * 4, none⟩ (.int .i64 (4 * es + 4))).cell? ⟨g0, k * 4 + 2, none⟩ = some (.int .u8 4) := (hs1.1.cellAt (k * 4 + 2) (by omega)).trans ((List.getElem?_set_ne (by omega)).trans ((evs_at M k _ 2 hM (by decide)).trans rfl))
                have hown2 : Hid ((wr.setCell ⟨g0, k * 4, none⟩ (.int .i64 (4 * es + 4))).ownsRow w.heap.size 37 4 (.slice (some ⟨g0, 0, none⟩) n1 c1) n1 (evs (M.set k ⟨4 * es + 4, et, 4, ev⟩))) := by
                  have h := hs1.1
                  rw [← evs_set0 M k _ (4 * es + 4) hM] at h
                  exact h
                have hbel2 : Hid (Below w.heap.size w (wr.setCell ⟨g0, k * 4, none⟩ (.int .i64 (4 * es + 4)))) := hbel.out.setCell (p := ⟨g0, k * 4, none⟩) hgw _
                have hmv2 : Hid (Moved L (M.set k ⟨4 * es + 4, et, 4, ev⟩) (k + 1)) := moved_step hmv.out hLk (mv_of ⟨es, et, 4, ev⟩ (4 * es + 4) (by dsimp only; omega) (by dsimp only; omega) (by intro _; rfl) (by dsimp only; omega))
                clear hs1 hown hbel hmv hLk hM
                go_wp2_with fail
                go_roundg g
                case measure => omega
                case rel => exact ⟨k + 1, _, by omega, by go_num, hmv2, hst2, hown2, hbel2⟩
            · as_aux_lemma =>
                have hs1 := hown.out.stored (k * 4) (.int .i64 (4 * es + 4))
                have q2 : (wr.setCell ⟨g0, k * 4, none⟩ (.int .i64 (4 * es + 4))).cell? ⟨g0, k * 4, none⟩ = some (.int .i64 (4 * es + 4)) := (hs1.1.cellAt (k * 4) (by omega)).trans (List.getElem?_set_self (by rw [evs_len, hml]; omega))
                have q3 : (wr.setCell ⟨g0, k * 4, none⟩ (.int .i64 (4 * es + 4))).cell? ⟨g0, k * 4 + 2, none⟩ = some (.int .u8 2) := (hs1.1.cellAt (k * 4 + 2) (by omega)).trans ((List.getElem?_set_ne (by omega)).trans ((evs_at M k _ 2 hM (by decide)).trans rfl))
                have hown2 : Hid ((wr.setCell ⟨g0, k * 4, none⟩ (.int .i64 (4 * es + 4))).ownsRow w.heap.size 37 4 (.slice (some ⟨g0, 0, none⟩) n1 c1) n1 (evs (M.set k ⟨4 * es + 4, et, 2, ev⟩))) := by
                  have h := hs1.1
                  rw [← evs_set0 M k _ (4 * es + 4) hM] at h
                  exact h
                have hbel2 : Hid (Below w.heap.size w (wr.setCell ⟨g0, k * 4, none⟩ (.int .i64 (4 * es + 4)))) := hbel.out.setCell (p := ⟨g0, k * 4, none⟩) hgw _
                have hmv2 : Hid (Moved L (M.set k ⟨4 * es + 4, et, 2, ev⟩) (k + 1)) := moved_step hmv.out hLk (mv_of ⟨es, et, 2, ev⟩ (4 * es + 4) (by dsimp only; omega) (by dsimp only; omega) (by intro _; rfl) (by dsimp only; omega))
                clear hs1 hown hbel hmv hLk hM
                go_wp2_with fail
                go_roundg g
                case measure => omega
                case rel => exact ⟨k + 1, _, by omega, by go_num, hmv2, hst2, hown2, hbel2⟩
            · as_aux_lemma =>
                have z1' : (ek == 4) = false := by simpa using z1
                have z2' : (ek == 2) = false := by simpa using z2
                have hs1 := hown.out.stored (k * 4) (.int .i64 (4 * es + 4))
                have q2 : (wr.setCell ⟨g0, k * 4, none⟩ (.int .i64 (4 * es + 4))).cell? ⟨g0, k * 4, none⟩ = some (.int .i64 (4 * es + 4)) := (hs1.1.cellAt (k * 4) (by omega)).trans (List.getElem?_set_self (by rw [evs_len, hml]; omega))
                have q3 : (wr.setCell ⟨g0, k * 4, none⟩ (.int .i64 (4 * es + 4))).cell? ⟨g0, k * 4 + 2, none⟩ = some (.int .u8 ek) := (hs1.1.cellAt (k * 4 + 2) (by omega)).trans ((List.getElem?_set_ne (by omega)).trans ((evs_at M k _ 2 hM (by decide)).trans rfl))
                have hown2 : Hid ((wr.setCell ⟨g0, k * 4, none⟩ (.int .i64 (4 * es + 4))).ownsRow w.heap.size 37 4 (.slice (some ⟨g0, 0, none⟩) n1 c1) n1 (evs (M.set k ⟨4 * es + 4, et, ek, ev⟩))) := by
                  have h := hs1.1
                  rw [← evs_set0 M k _ (4 * es + 4) hM] at h
                  exact h
                have hbel2 : Hid (Below w.heap.size w (wr.setCell ⟨g0, k * 4, none⟩ (.int .i64 (4 * es + 4)))) := hbel.out.setCell (p := ⟨g0, k * 4, none⟩) hgw _
                have hmv2 : Hid (Moved L (M.set k ⟨4 * es + 4, et, ek, ev⟩) (k + 1)) := moved_step hmv.out hLk (mv_of ⟨es, et, ek, ev⟩ (4 * es + 4) (by dsimp only; omega) (by dsimp only; omega) (by intro _; rfl) (by dsimp only; omega))
                clear hs1 hown hbel hmv hLk hM
                go_wp2_with fail
                go_roundg g
                case measure => omega
                case rel => exact ⟨k + 1, _, by omega, by go_num, hmv2, hst2, hown2, hbel2⟩
          · rcases hkc with rfl | rfl | ⟨z1, z2⟩
            · as_aux_lemma =>
                have hs1 := hown.out.stored (k * 4) (.int .i64 (4 * es + 4))
                have hs2 := hs1.1.stored (k * 4) (.int .i64 (4 * es + 4 + 1))
                have f2 := hs1.1.frozenAt (k * 4)
                have q2 : (wr.setCell ⟨g0, k * 4, none⟩ (.int .i64 (4 * es + 4))).cell? ⟨g0, k * 4, none⟩ = some (.int .i64 (4 * es + 4)) := (hs1.1.cellAt (k * 4) (by omega)).trans (List.getElem?_set_self (by rw [evs_len, hml]; omega))
                have q3 : (wr.setCell ⟨g0, k * 4, none⟩ (.int .i64 (4 * es + 4))).cell? ⟨g0, k * 4 + 2, none⟩ = some (.int .u8 4) := (hs1.1.cellAt (k * 4 + 2) (by omega)).trans ((List.getElem?_set_ne (by omega)).trans ((evs_at M k _ 2 hM (by decide)).trans rfl))
                have hown2 : Hid (((wr.setCell ⟨g0, k * 4, none⟩ (.int .i64 (4 * es + 4))).setCell ⟨g0, k * 4, none⟩ (.int .i64 (4 * es + 4 + 1))).ownsRow w.heap.size 37 4 (.slice (some ⟨g0, 0, none⟩) n1 c1) n1 (evs (M.set k ⟨4 * es + 4 + 1, et, 4, ev⟩))) := by
                  have h := hs2.1
                  rw [List.set_set, ← evs_set0 M k _ (4 * es + 4 + 1) hM] at h
                  exact h
                have hbel2 : Hid (Below w.heap.size w ((wr.setCell ⟨g0, k * 4, none⟩ (.int .i64 (4 * es + 4))).setCell ⟨g0, k * 4, none⟩ (.int .i64 (4 * es + 4 + 1)))) := (hbel.out.setCell (p := ⟨g0, k * 4, none⟩) hgw _).setCell (p := ⟨g0, k * 4, none⟩) hgw _
                have hmv2 : Hid (Moved L (M.set k ⟨4 * es + 4 + 1, et, 4, ev⟩) (k + 1)) := moved_step hmv.out hLk (mv_of ⟨es, et, 4, ev⟩ (4 * es + 4 + 1) (by dsimp only; omega) (by dsimp only; omega) (by dsimp only; omega) (by dsimp only; omega))
                clear hs2 hs1 hown hbel hmv hLk hM
                go_wp2_with fail
                go_roundg g
                case measure => omega
                case rel => exact ⟨k + 1, _, by omega, by go_num, hmv2, hst2, hown2, hbel2⟩
            · as_aux_lemma =>
                have hs1 := hown.out.stored (k * 4) (.int .i64 (4 * es + 4))
                have hs2 := hs1.1.stored (k * 4) (.int .i64 (4 * es + 4 - 1))
                have f2 := hs1.1.frozenAt (k * 4)
                have q2 : (wr.setCell ⟨g0, k * 4, none⟩ (.int .i64 (4 * es + 4))).cell? ⟨g0, k * 4, none⟩ = some (.int .i64 (4 * es + 4)) := (hs1.1.cellAt (k * 4) (by omega)).trans (List.getElem?_set_self (by rw [evs_len, hml]; omega))
                have q3 : (wr.setCell ⟨g0, k * 4, none⟩ (.int .i64 (4 * es + 4))).cell? ⟨g0, k * 4 + 2, none⟩ = some (.int .u8 2) := (hs1.1.cellAt (k * 4 + 2) (by omega)).trans ((List.getElem?_set_ne (by omega)).trans ((evs_at M k _ 2 hM (by decide)).trans rfl))
                have hown2 : Hid (((wr.setCell ⟨g0, k * 4, none⟩ (.int .i64 (4 * es + 4))).setCell ⟨g0, k * 4, none⟩ (.int .i64 (4 * es + 4 - 1))).ownsRow w.heap.size 37 4 (.slice (some ⟨g0, 0, none⟩) n1 c1) n1 (evs (M.set k ⟨4 * es + 4 - 1, et, 2, ev⟩))) := by
                  have h := hs2.1
                  rw [List.set_set, ← evs_set0 M k _ (4 * es + 4 - 1) hM] at h
                  exact h
                have hbel2 : Hid (Below w.heap.size w ((wr.setCell ⟨g0, k * 4, none⟩ (.int .i64 (4 * es + 4))).setCell ⟨g0, k * 4, none⟩ (.int .i64 (4 * es + 4 - 1)))) := (hbel.out.setCell (p := ⟨g0, k * 4, none⟩) hgw _).setCell (p := ⟨g0, k * 4, none⟩) hgw _
                have hmv2 : Hid (Moved L (M.set k ⟨4 * es + 4 - 1, et, 2, ev⟩) (k + 1)) := moved_step hmv.out hLk (mv_of ⟨es, et, 2, ev⟩ (4 * es + 4 - 1) (by dsimp only; omega) (by dsimp only; omega) (by dsimp only; omega) (by dsimp only; omega))
                clear hs2 hs1 hown hbel hmv hLk hM
                go_wp2_with fail
                go_roundg g
                case measure => omega
                case rel => exact ⟨k + 1, _, by omega, by go_num, hmv2, hst2, hown2, hbel2⟩
            · as_aux_lemma =>
                have z1' : (ek == 4) = false := by simpa using z1
                have z2' : (ek == 2) = false := by simpa using z2
                have hs1 := hown.out.stored (k * 4) (.int .i64 (4 * es + 4))
                have q2 : (wr.setCell ⟨g0, k * 4, none⟩ (.int .i64 (4 * es + 4))).cell? ⟨g0, k * 4, none⟩ = some (.int .i64 (4 * es + 4)) := (hs1.1.cellAt (k * 4) (by omega)).trans (List.getElem?_set_self (by rw [evs_len, hml]; omega))
                have q3 : (wr.setCell ⟨g0, k * 4, none⟩ (.int .i64 (4 * es + 4))).cell? ⟨g0, k * 4 + 2, none⟩ = some (.int .u8 ek) := (hs1.1.cellAt (k * 4 + 2) (by omega)).trans ((List.getElem?_set_ne (by omega)).trans ((evs_at M k _ 2 hM (by decide)).trans rfl))
                have hown2 : Hid ((wr.setCell ⟨g0, k * 4, none⟩ (.int .i64 (4 * es + 4))).ownsRow w.heap.size 37 4 (.slice (some ⟨g0, 0, none⟩) n1 c1) n1 (evs (M.set k ⟨4 * es + 4, et, ek, ev⟩))) := by
                  have h := hs1.1
                  rw [← evs_set0 M k _ (4 * es + 4) hM] at h
                  exact h
                have hbel2 : Hid (Below w.heap.size w (wr.setCell ⟨g0, k * 4, none⟩ (.int .i64 (4 * es + 4)))) := hbel.out.setCell (p := ⟨g0, k * 4, none⟩) hgw _
                have hmv2 : Hid (Moved L (M.set k ⟨4 * es + 4, et, ek, ev⟩) (k + 1)) := moved_step hmv.out hLk (mv_of ⟨es, et, ek, ev⟩ (4 * es + 4) (by dsimp only; omega) (by dsimp only; omega) (by intro _; rfl) (by dsimp only; omega))
                clear hs1 hown hbel hmv hLk hM
                go_wp2_with fail
                go_roundg g
                case measure => omega
                case rel => exact ⟨k + 1, _, by omega, by go_num, hmv2, hst2, hown2, hbel2⟩
theorem gmoves_law (A : Option Addr) (n c : Nat) (l : List Ev) (wh : Int) (w : World) (hI : IsEvents w A n c l) (ww : (Lit.int .u64 wh).wf = true) :
    Calls Try.prog 5 #[.slice A n c, .int .u64 wh] w fun e w' => e = .returned (.bool true) ∧ Below w.heap.size w w' :=
  gmov_core wh A n c l w hI.reads hI.le (by have := hI.cap; unfold maxLen at this; exact this) (wf_ev hI) (u64_wf ww).1 (u64_wf ww).2
end Go.Proofs.Ythkppihfdlmhgaa
