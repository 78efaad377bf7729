/- The law OmapMoves, walked (printed by gen_lawmov.py). -/
import Derived.Test.YtfghkmhabpagkaaLawTwo
import Derived.Test.YtfghkmhabpagkaaKeys
import Derived.Test.YtfghkmhabpagkaaODelK
import Derived.StillTailTactics
import Derived.BigQuiet
namespace Go.Proofs.Ytfghkmhabpagkaa
open Go Go.RowKit
set_option linter.unusedVariables false

theorem srt_asc {l : List Pr} (h : Srt Pr.key l) : Asc l := h
theorem own_snocU {w : World} {base n : Nat} {v : Value} {os : List Int} {x : Int} (h : w.ownsRow base 23 1 v (n + 1) (us os ++ [.int .u64 x])) : w.ownsRow base 23 1 v (n + 1) (us (os ++ [x])) := by
  rw [us_append]
  exact h
/-- A number of 64 bits. -/
def U64 (x : Int) : Prop := 0 ≤ x ∧ x ≤ 18446744073709551615
theorem inR_take {lo hi : Int} {l : List Pr} {k : Nat} {p : Pr} (h : l[k]? = some p) : (inR lo hi (l.take (k + 1))).length = (inR lo hi (l.take k)).length + if inB lo hi p.key = true then 1 else 0 := by
  unfold inR
  rw [List.take_add_one, h, List.filter_append, List.length_append]
  cases hb : inB lo hi p.key <;> simp [hb]
theorem inB_yes {lo hi k : Int} (h1 : lo ≤ k) (h2 : k ≤ hi) : inB lo hi k = true := by simp [inB, h1, h2]
theorem inB_no {lo hi k : Int} (h : k < lo ∨ hi < k) : inB lo hi k = false := by
  rw [Bool.eq_false_iff]
  intro h2
  simp [inB] at h2
  omega
/-- What Move leaves at a key. -/
theorem mv_from {lo hi by_ k : Int} {S : List Pr} (hs : Srt Pr.key S) (hi_ : inB lo hi (k - by_) = true) {p : Pr} (h : look Pr.key S (k - by_) = some p) : look Pr.key (moved lo hi by_ S) k = some ⟨p.key + by_, p.val⟩ := by
  rw [(moved_spec lo hi by_ hs).2, look_sh, look_in, if_pos hi_, h]
  rfl
theorem mv_none {lo hi by_ k : Int} {S : List Pr} (hs : Srt Pr.key S) (h : inB lo hi (k - by_) = false ∨ look Pr.key S (k - by_) = none) : look Pr.key (moved lo hi by_ S) k = if inB lo hi k = true then none else look Pr.key S k := by
  rw [(moved_spec lo hi by_ hs).2, look_sh, look_in]
  rcases h with h | h
  · rw [if_neg (by rw [h]; decide)]; rfl
  · have h2 : (if inB lo hi (k - by_) = true then (none : Option Pr) else none) = none := by split <;> rfl
    rw [h, h2]; rfl

set_option maxRecDepth 100000 in
set_option maxHeartbeats 16000000 in
theorem moves_core (A : Option Addr) (n c : Nat) (l : List Pr) (lo hi xk xb : Int) (w : World) (hr : Hid (Reads w w.heap.size 2 A n (prs l))) (hz : n * 16 ≤ 140737488351232) (hw : ∀ p ∈ l, (Lit.int .u64 p.key).wf = true) (wlo : (Lit.int .u64 lo).wf = true) (whi : (Lit.int .u64 hi).wf = true) (wk : (Lit.int .u64 xk).wf = true) (wb : (Lit.int .u64 xb).wf = true) :
    Calls Try.prog 3 #[.slice A n c, .agg #[.int .u64 lo, .int .u64 hi], .agg #[.int .u64 xk, .int .u64 xb]] w fun e w' => e = .returned (.bool true) ∧ Below w.heap.size w w' := by
  have blo := bounds_u64 wlo
  have bhi := bounds_u64 whi
  have bk := bounds_u64 wk
  have bb := bounds_u64 wb
  have hll := Lib.hid (prs_n hr.out)
  obtain ⟨W, hW⟩ : ∃ W, (w.alloc (.cells #[.int .u64 lo, .int .u64 hi] 25)).alloc (.cells #[.int .u64 xk, .int .u64 xb] 27) = W := ⟨_, rfl⟩
  have hb0 : Hid (Below w.heap.size w W) := by rw [← hW]; exact ((Below.refl _ _).alloc (Nat.le_refl _) _).alloc (by simp) _
  have hBs : Hid (Blk W w.heap.size 25 #[.int .u64 lo, .int .u64 hi]) := by rw [← hW]; exact (Blk.new w _ _).alloc _
  have hBx : Hid (Blk W (w.heap.size + 1) 27 #[.int .u64 xk, .int .u64 xb]) := by rw [← hW]; exact Blk.new1 w _ _ _
  have hr0 : Hid (Reads W W.heap.size 2 A n (prs l)) := (hr.out.below hb0.out).more hb0.out.size
  have hmade := made_any l A n c W hr0 hz
  obtain ⟨M, hM⟩ : ∃ M : Int, IntKind.u64.wrap (18446744073709551615 - hi) = M := ⟨_, rfl⟩
  have eM : M = 18446744073709551615 - hi := by rw [← hM, u64_sub bhi.1 bhi.2 (by omega)]
  clear hr hr0
  have hmk : Hid (Calls Try.prog 11 #[.slice A n c] W fun e w' => ∃ ad, e = .returned (.pointer ad) ∧ Below W.heap.size W w') := hmade.mono fun e w' h => by
    obtain ⟨hb, ⟨_, h⟩ | ⟨_, g, v, h, _⟩⟩ := h
    · exact ⟨_, h, hb⟩
    · exact ⟨_, h, hb⟩
  by_cases t1 : 60 < n
  · have d1 : (60 : Int) < (n : Int) := by omega
    clear hmade
    go_enter Try.func3, Try.ntmps3
    go_wp2_with fail
    refine hmk.out.mono ?_
    rintro e w1 ⟨ad, rfl, hb⟩
    obtain ⟨c0, c1⟩ := box2 hBs hb
    obtain ⟨x0, x1⟩ := box2 hBx hb
    have hb1 := below_on hb0 hb
    clear hb hmk hW
    go_wp2_with fail
    refine (known_any _).mono ?_
    rintro e w2 ⟨rfl, hb⟩
    have hbe := below_on hb1 hb
    clear hb
    go_wp2_with fail
    go_ret
    exact ⟨rfl, hbe.out⟩
  · have d1 : ¬ (60 : Int) < (n : Int) := by omega
    by_cases t2 : hi < lo
    · have d2 := decide_eq_true t2
      clear hmade
      go_enter Try.func3, Try.ntmps3
      go_wp2_with fail
      refine hmk.out.mono ?_
      rintro e w1 ⟨ad, rfl, hb⟩
      obtain ⟨c0, c1⟩ := box2 hBs hb
      obtain ⟨x0, x1⟩ := box2 hBx hb
      have hb1 := below_on hb0 hb
      clear hb hmk hW
      go_wp2_with fail
      refine (known_any _).mono ?_
      rintro e w2 ⟨rfl, hb⟩
      have hbe := below_on hb1 hb
      clear hb
      go_wp2_with fail
      go_ret
      exact ⟨rfl, hbe.out⟩
    · have d2 := decide_eq_false t2
      by_cases t3 : xb = 0
      · subst t3
        clear hmade
        go_enter Try.func3, Try.ntmps3
        go_wp2_with fail
        refine hmk.out.mono ?_
        rintro e w1 ⟨ad, rfl, hb⟩
        obtain ⟨c0, c1⟩ := box2 hBs hb
        obtain ⟨x0, x1⟩ := box2 hBx hb
        have hb1 := below_on hb0 hb
        clear hb hmk hW
        go_wp2_with fail
        refine (known_any _).mono ?_
        rintro e w2 ⟨rfl, hb⟩
        have hbe := below_on hb1 hb
        clear hb
        go_wp2_with fail
        go_ret
        exact ⟨rfl, hbe.out⟩
      · have d3 : (xb == 0) = false := by simpa using t3
        by_cases t4 : M < xb
        · have d4 := decide_eq_true t4
          clear hmade
          go_enter Try.func3, Try.ntmps3
          go_wp2_with fail
          refine hmk.out.mono ?_
          rintro e w1 ⟨ad, rfl, hb⟩
          obtain ⟨c0, c1⟩ := box2 hBs hb
          obtain ⟨x0, x1⟩ := box2 hBx hb
          have hb1 := below_on hb0 hb
          clear hb hmk hW
          go_wp2_with fail
          refine (known_any _).mono ?_
          rintro e w2 ⟨rfl, hb⟩
          have hbe := below_on hb1 hb
          clear hb
          go_wp2_with fail
          go_ret
          exact ⟨rfl, hbe.out⟩
        · have d4 := decide_eq_false t4
          have hf60 : (firsts l).length ≤ 60 := by
            have h1 := firsts_len l l.length
            rw [← firsts_all, hll.out] at h1
            omega
          have hS60 : (madeL l).length ≤ 60 := Nat.le_trans (madeL_len l) hf60
          have hSw : ∀ p ∈ madeL l, (Lit.int .u64 p.key).wf = true := fun p hp => hw p (madeL_mem hp)
          clear hmk
          go_enter Try.func3, Try.ntmps3
          go_wp2_with fail
          try rw [hW]
          refine hmade.mono ?_
          rintro e w1 ⟨hb, ⟨h60, _⟩ | ⟨_, g, v, rfl, ho⟩⟩
          · omega
          have m1 : Hid (MapAt W w1 g v (madeL l)) := ⟨ho, hb⟩
          obtain ⟨S, hS⟩ : ∃ S, madeL l = S := ⟨_, rfl⟩
          rw [hS] at m1 hS60 hSw
          have hs : Hid (Srt Pr.key S) := m1.out.o.srt
          have hSwh := Lib.hid hSw
          clear hmade hb ho hf60 hS hW hw hSw
          obtain ⟨c0, c1⟩ := box2 hBs m1.out.bel
          obtain ⟨x0, x1⟩ := box2 hBx m1.out.bel
          go_wp2_with fail
          refine (pairsM w1 m1).mono ?_
          rintro e w2 ⟨PA, PC, rfl, hown, hb⟩
          have kp2 := kp_new m1.out hown
          have m2 := mapAt_on m1 hb
          obtain ⟨nS, hnS⟩ : ∃ nS, S.length = nS := ⟨_, rfl⟩
          rw [hnS] at kp2 hS60
          have hnSh := Lib.hid hnS
          try rw [hnS]
          clear m1 hown hb c0 c1 x0 x1 hnS
          obtain ⟨c0, c1⟩ := box2 hBs m2.out.bel
          obtain ⟨x0, x1⟩ := box2 hBx m2.out.bel
          go_wp2_with fail
          refine (moveM lo hi xb w2 m2 (by have := hnSh.out; omega) (by omega) t3 (by omega) hSwh.out whi wb).mono ?_
          rintro e w3 ⟨rfl, v3, hm, hst⟩
          have m3 := Lib.hid hm
          have kp3 := kp_on kp2 hst
          obtain ⟨nI, hnI⟩ : ∃ nI, (inR lo hi S).length = nI := ⟨_, rfl⟩
          have hnIh := Lib.hid hnI
          try rw [hnI]
          clear hm hst m2 kp2 c0 c1 x0 x1 hnI
          obtain ⟨T, hT⟩ : ∃ T, Hid (moved lo hi xb S = T) := ⟨_, rfl⟩
          rw [hT.out] at m3
          have hTw : Hid (∀ p ∈ T, (Lit.int .u64 p.key).wf = true) := by
            unfold Hid
            rw [← hT.out]
            exact moved_wf hSwh.out blo.1 bb.1 (by omega)
          have hTs : Hid (Srt Pr.key T) := m3.out.o.srt
          obtain ⟨nT, hnT⟩ : ∃ nT, T.length = nT := ⟨_, rfl⟩
          have hnTh := Lib.hid hnT
          have hT60 : nT ≤ 60 := by
            have h1 := moved_len lo hi xb S
            rw [hT.out] at h1
            have := hnSh.out
            omega
          obtain ⟨c0, c1⟩ := box2 hBs m3.out.bel
          obtain ⟨x0, x1⟩ := box2 hBx m3.out.bel
          go_wp2_with fail
          refine (pairsM w3 m3).mono ?_
          rintro e w4 ⟨QA, QC, rfl, hown, hb⟩
          have hr4 : Hid (Reads w4 w4.heap.size 2 QA nT (prs T)) := by have h1 := Reads.of_own hown; rw [hnT] at h1; exact h1
          have hq4 : Hid (Reads w4 w4.heap.size 2 PA nS (prs S)) := reads_on (Lib.hid kp3.out.1) hb
          have m4 := mapAt_on m3 hb
          try rw [hnT]
          clear m3 kp3 hown hb c0 c1 x0 x1 hnT
          go_wp2_with fail
          refine (ascL_any S PA nS PC w4 hq4 (by omega)).mono ?_
          rintro e w5 ⟨hE, _, hb⟩
          replace hE := hE (srt_asc hs.out)
          subst hE
          have hr5 := reads_on hr4 hb
          have hq5 := reads_on hq4 hb
          have m5 := mapAt_on m4 hb
          clear hb hr4 hq4 m4
          go_wp2_with fail
          refine (ascL_any T QA nT QC w5 hr5 (by omega)).mono ?_
          rintro e w6 ⟨hE, _, hb⟩
          replace hE := hE (srt_asc hTs.out)
          subst hE
          have hr6 := reads_on hr5 hb
          have hq6 := reads_on hq5 hb
          have m6 := mapAt_on m5 hb
          clear hb hr5 hq5 m5
          obtain ⟨c0, c1⟩ := box2 hBs m6.out.bel
          obtain ⟨x0, x1⟩ := box2 hBx m6.out.bel
          obtain ⟨i0, hi0, hz0, hz1, hz2⟩ := info_parts infoU64
          obtain ⟨w7, hw7⟩ : ∃ w7, w6.alloc (.cells #[.int .u64 xk] 23) = w7 := ⟨_, rfl⟩
          have hb67 : Below w6.heap.size w6 w7 := by rw [← hw7]; exact (Below.refl _ _).alloc (Nat.le_refl _) _
          have hown7 : Hid (w7.ownsRow w6.heap.size 23 1 (.slice (some ⟨w6.heap.size, 0, none⟩) 1 1) 1 (us [xk])) := by rw [← hw7]; exact own_lit w6 #[.int .u64 xk] 1 _ rfl (Nat.le_refl _) (by decide) rfl
          have hb67h := Lib.hid hb67
          go_wp2_with fail
          try rw [hw7]
          clear c0 c1 x0 x1 hb67 hw7
          go_loopg [12, 13, 14] nS (fun gk cv v iv wr => ∃ i : Nat, i + gk = nS ∧ iv = .int .i64 i ∧ cv = .int .i64 ((inR lo hi (S.take i)).length : Nat) ∧ ∃ (ks : List Int) (K : Nat), Hid (ks.length = K) ∧ K ≤ 1 + 2 * i ∧ Hid (∀ x ∈ ks, U64 x) ∧ Hid (wr.ownsRow w6.heap.size 23 1 v K (us ks)) ∧ Hid (Below w6.heap.size w6 wr))
          case atStart => exact ⟨0, by omega, rfl, rfl, [xk], 1, rfl, by omega, (fun x hx => by simp at hx; rw [hx]; exact bk), hown7.out, hb67h.out⟩
          case round =>
            clear hown7 hb67h
            obtain ⟨i, hgi, rfl, rfl, ks, K, hK, hKl, hU, hown, hbel⟩ := hrel
            have m8 := mapAt_on m6 hbel.out
            have hsz := Lib.hid hbel.out.size
            obtain ⟨c0, c1⟩ := box2 hBs m8.out.bel
            obtain ⟨x0, x1⟩ := box2 hBx m8.out.bel
            cases gk with
            | zero =>
              obtain rfl : nS = i := by omega
              have hcn : Hid ((inR lo hi (S.take nS)).length = nI) := by
                unfold Hid
                rw [List.take_of_length_le (by rw [hnSh.out]; exact Nat.le_refl _), hnIh.out]
              rw [hcn.out]
              go_wp2_with fail
              go_loopg [13, 15] nT (fun gk v iv wr => ∃ i : Nat, i + gk = nT ∧ iv = .int .i64 i ∧ ∃ (ks : List Int) (K : Nat), Hid (ks.length = K) ∧ K ≤ 121 + i ∧ Hid (∀ x ∈ ks, U64 x) ∧ Hid (wr.ownsRow w6.heap.size 23 1 v K (us ks)) ∧ Hid (Below w6.heap.size w6 wr))
              case atStart => exact ⟨0, by omega, rfl, ks, K, hK.out, by omega, hU.out, hown.out, hbel.out⟩
              case round =>
                clear hown hbel hU hK hKl m8 hsz c0 c1 x0 x1
                obtain ⟨i2, hgi2, rfl, ks, K, hK, hKl, hU, hown, hbel⟩ := hrel
                have m8 := mapAt_on m6 hbel.out
                have hsz := Lib.hid hbel.out.size
                cases gk with
                | zero =>
                  obtain rfl : nT = i2 := by omega
                  obtain ⟨KA, KC, hform, _⟩ := own_form hown.out
                  have hr8 : Hid (Reads wr wr.heap.size 1 KA K (us ks)) := by have h1 := hown.out; rw [hform] at h1; exact Reads.of_own h1
                  subst hform
                  go_wp2_with fail
                  obtain ⟨w8, rfl⟩ : ∃ w8 : World, w8 = wr := ⟨_, rfl⟩
                  have hq8 := reads_on hq6 hbel.out
                  have mW := m8
                  have hb08 := hbel
                  clear hown hbel m8
                  go_loopg [16] K (fun gk iv w' => ∃ j : Nat, j + gk = K ∧ iv = .int .i64 j ∧ Hid (Below w8.heap.size w8 w'))
                  case atStart => exact ⟨0, by omega, rfl, Below.refl _ _⟩
                  case round =>
                    obtain ⟨j, hj, rfl, hb3⟩ := hrel
                    obtain ⟨c0, c1⟩ := box2 hBs ((mapAt_on mW hb3.out).out.bel)
                    obtain ⟨x0, x1⟩ := box2 hBx ((mapAt_on mW hb3.out).out.bel)
                    cases gk with
                    | zero =>
                      obtain rfl : j = K := by omega
                      clear hq8 hr8
                      go_wp2_with fail
                      refine (lenM wr (mapAt_on mW hb3.out)).mono ?_
                      rintro e w9 ⟨hE, hb⟩
                      rw [hnTh.out] at hE
                      subst hE
                      have m9 := mapAt_on (mapAt_on mW hb3.out) hb
                      clear hb c0 c1 x0 x1
                      go_wp2_with fail
                      refine (known_any _).mono ?_
                      rintro e wz ⟨rfl, hb⟩
                      have hbe := below_on (below_on hb0 m9.out.bel) hb
                      clear hb
                      go_wp2_with fail
                      go_ret
                      exact ⟨rfl, hbe.out⟩
                    | succ g3 =>
                      obtain ⟨bK, oK, rfl, hbK⟩ := reads_head hr8.out (by omega) (by decide)
                      obtain ⟨kx, hkx, q0⟩ := us_at (hr8.out.below hb3.out) (show j < K by omega)
                      have j0 : (0 : Int) ≤ (j : Int) := by omega
                      have j1 : (j : Int) < (K : Int) := by omega
                      have hkU := hU.out _ (List.mem_of_getElem? hkx)
                      unfold U64 at hkU
                      have hbwK : bK < wr.heap.size := by have := hb3.out.size; omega
                      clear hkx
                      by_cases u1 : xb ≤ kx
                      · have e1 := decide_eq_true u1
                        have sS : IntKind.u64.wrap (kx - xb) = kx - xb := u64_sub bb.1 u1 hkU.2
                        by_cases u2 : lo ≤ kx - xb
                        · have e2 := decide_eq_true u2
                          by_cases u3 : kx - xb ≤ hi
                          · have e3 := decide_eq_true u3
                            cases hlk0 : look Pr.key S (kx - xb) with
                            | some p =>
                              obtain ⟨pk, pv⟩ := p
                              have hlk := Lib.hid hlk0
                              have hlo := Lib.hid (show look Pr.key T kx = some ⟨pk + xb, pv⟩ by rw [← hT.out]; exact mv_from hs.out (inB_yes u2 u3) hlk0)
                              clear hlk0
                              go_wp2_with fail
                              have hqn := reads_on hq8 hb3.out
                              refine (has_at S PA nS PC (kx - xb) wr hqn (by omega)).mono ?_
                              rintro e w1n ⟨hE, hb⟩
                              rw [hlk.out] at hE
                              replace hE : e = .returned (.tuple #[.int .u64 pv, .bool true]) := hE
                              subst hE
                              have bel1n := below_on hb3 hb
                              clear hb hqn
                              obtain ⟨c0, c1⟩ := box2 hBs ((mapAt_on mW bel1n.out).out.bel)
                              obtain ⟨x0, x1⟩ := box2 hBx ((mapAt_on mW bel1n.out).out.bel)
                              go_wp2_with fail
                              refine (getM kx w1n (mapAt_on mW bel1n.out)).mono ?_
                              rintro e wz ⟨hE, hb⟩
                              rw [hlo.out] at hE
                              replace hE : e = .returned (.tuple #[.int .u64 pv, .bool true]) := hE
                              subst hE
                              have hbz := below_on bel1n hb
                              clear hb
                              go_wp2_with fail
                              go_roundg g3
                              case measure => omega
                              case rel => exact ⟨j + 1, by omega, by go_num, hbz⟩
                            | none =>
                              have hlk := Lib.hid hlk0
                              clear hlk0
                              go_wp2_with fail
                              have hqn := reads_on hq8 hb3.out
                              refine (has_at S PA nS PC (kx - xb) wr hqn (by omega)).mono ?_
                              rintro e w1n ⟨hE, hb⟩
                              rw [hlk.out] at hE
                              replace hE : e = .returned (.tuple #[.int .u64 0, .bool false]) := hE
                              subst hE
                              have bel1n := below_on hb3 hb
                              clear hb hqn
                              obtain ⟨c0, c1⟩ := box2 hBs ((mapAt_on mW bel1n.out).out.bel)
                              obtain ⟨x0, x1⟩ := box2 hBx ((mapAt_on mW bel1n.out).out.bel)
                              by_cases v1 : kx < lo
                              · have f1 := decide_eq_true v1
                                exfalso; omega
                              · have f1 := decide_eq_false v1
                                by_cases v2 : hi < kx
                                · have f2 := decide_eq_true v2
                                  have hlo := Lib.hid (show look Pr.key T kx = look Pr.key S kx by rw [← hT.out, mv_none hs.out (.inr hlk.out), inB_no (.inr (by omega))]; rfl)
                                  obtain ⟨lv, hlv⟩ : ∃ lv, valO (look Pr.key S kx) = lv := ⟨_, rfl⟩
                                  obtain ⟨lb, hlb⟩ : ∃ lb, (look Pr.key S kx).isSome = lb := ⟨_, rfl⟩
                                  have hlvh := Lib.hid hlv
                                  have hlbh := Lib.hid hlb
                                  clear hlv hlb
                                  go_wp2_with fail
                                  have hqn := reads_on hq8 bel1n.out
                                  refine (has_at S PA nS PC kx w1n hqn (by omega)).mono ?_
                                  rintro e w2n ⟨hE, hb⟩
                                  rw [hlvh.out, hlbh.out] at hE
                                  replace hE : e = .returned (.tuple #[.int .u64 lv, .bool lb]) := hE
                                  subst hE
                                  have bel2n := below_on bel1n hb
                                  clear hb hqn
                                  obtain ⟨c0, c1⟩ := box2 hBs ((mapAt_on mW bel2n.out).out.bel)
                                  obtain ⟨x0, x1⟩ := box2 hBx ((mapAt_on mW bel2n.out).out.bel)
                                  go_wp2_with fail
                                  refine (getM kx w2n (mapAt_on mW bel2n.out)).mono ?_
                                  rintro e wz ⟨hE, hb⟩
                                  rw [hlo.out, hlvh.out, hlbh.out] at hE
                                  replace hE : e = .returned (.tuple #[.int .u64 lv, .bool lb]) := hE
                                  subst hE
                                  have hbz := below_on bel2n hb
                                  clear hb
                                  go_wp2_with fail
                                  go_roundg g3
                                  case measure => omega
                                  case rel => exact ⟨j + 1, by omega, by go_num, hbz⟩
                                · have f2 := decide_eq_false v2
                                  have hlo := Lib.hid (show look Pr.key T kx = none by rw [← hT.out, mv_none hs.out (.inr hlk.out), if_pos (inB_yes (by omega) (by omega))])
                                  go_wp2_with fail
                                  refine (getM kx w1n (mapAt_on mW bel1n.out)).mono ?_
                                  rintro e wz ⟨hE, hb⟩
                                  rw [hlo.out] at hE
                                  replace hE : e = .returned (.tuple #[.int .u64 0, .bool false]) := hE
                                  subst hE
                                  have hbz := below_on bel1n hb
                                  clear hb
                                  go_wp2_with fail
                                  go_roundg g3
                                  case measure => omega
                                  case rel => exact ⟨j + 1, by omega, by go_num, hbz⟩
                          · have e3 := decide_eq_false u3
                            by_cases v1 : kx < lo
                            · have f1 := decide_eq_true v1
                              exfalso; omega
                            · have f1 := decide_eq_false v1
                              by_cases v2 : hi < kx
                              · have f2 := decide_eq_true v2
                                have hlo := Lib.hid (show look Pr.key T kx = look Pr.key S kx by rw [← hT.out, mv_none hs.out (.inl (inB_no (.inr (by omega)))), inB_no (.inr (by omega))]; rfl)
                                obtain ⟨lv, hlv⟩ : ∃ lv, valO (look Pr.key S kx) = lv := ⟨_, rfl⟩
                                obtain ⟨lb, hlb⟩ : ∃ lb, (look Pr.key S kx).isSome = lb := ⟨_, rfl⟩
                                have hlvh := Lib.hid hlv
                                have hlbh := Lib.hid hlb
                                clear hlv hlb
                                go_wp2_with fail
                                have hqn := reads_on hq8 hb3.out
                                refine (has_at S PA nS PC kx wr hqn (by omega)).mono ?_
                                rintro e w2n ⟨hE, hb⟩
                                rw [hlvh.out, hlbh.out] at hE
                                replace hE : e = .returned (.tuple #[.int .u64 lv, .bool lb]) := hE
                                subst hE
                                have bel2n := below_on hb3 hb
                                clear hb hqn
                                obtain ⟨c0, c1⟩ := box2 hBs ((mapAt_on mW bel2n.out).out.bel)
                                obtain ⟨x0, x1⟩ := box2 hBx ((mapAt_on mW bel2n.out).out.bel)
                                go_wp2_with fail
                                refine (getM kx w2n (mapAt_on mW bel2n.out)).mono ?_
                                rintro e wz ⟨hE, hb⟩
                                rw [hlo.out, hlvh.out, hlbh.out] at hE
                                replace hE : e = .returned (.tuple #[.int .u64 lv, .bool lb]) := hE
                                subst hE
                                have hbz := below_on bel2n hb
                                clear hb
                                go_wp2_with fail
                                go_roundg g3
                                case measure => omega
                                case rel => exact ⟨j + 1, by omega, by go_num, hbz⟩
                              · have f2 := decide_eq_false v2
                                exfalso; omega
                        · have e2 := decide_eq_false u2
                          by_cases v1 : kx < lo
                          · have f1 := decide_eq_true v1
                            have hlo := Lib.hid (show look Pr.key T kx = look Pr.key S kx by rw [← hT.out, mv_none hs.out (.inl (inB_no (.inl (by omega)))), inB_no (.inl (by omega))]; rfl)
                            obtain ⟨lv, hlv⟩ : ∃ lv, valO (look Pr.key S kx) = lv := ⟨_, rfl⟩
                            obtain ⟨lb, hlb⟩ : ∃ lb, (look Pr.key S kx).isSome = lb := ⟨_, rfl⟩
                            have hlvh := Lib.hid hlv
                            have hlbh := Lib.hid hlb
                            clear hlv hlb
                            go_wp2_with fail
                            have hqn := reads_on hq8 hb3.out
                            refine (has_at S PA nS PC kx wr hqn (by omega)).mono ?_
                            rintro e w2n ⟨hE, hb⟩
                            rw [hlvh.out, hlbh.out] at hE
                            replace hE : e = .returned (.tuple #[.int .u64 lv, .bool lb]) := hE
                            subst hE
                            have bel2n := below_on hb3 hb
                            clear hb hqn
                            obtain ⟨c0, c1⟩ := box2 hBs ((mapAt_on mW bel2n.out).out.bel)
                            obtain ⟨x0, x1⟩ := box2 hBx ((mapAt_on mW bel2n.out).out.bel)
                            go_wp2_with fail
                            refine (getM kx w2n (mapAt_on mW bel2n.out)).mono ?_
                            rintro e wz ⟨hE, hb⟩
                            rw [hlo.out, hlvh.out, hlbh.out] at hE
                            replace hE : e = .returned (.tuple #[.int .u64 lv, .bool lb]) := hE
                            subst hE
                            have hbz := below_on bel2n hb
                            clear hb
                            go_wp2_with fail
                            go_roundg g3
                            case measure => omega
                            case rel => exact ⟨j + 1, by omega, by go_num, hbz⟩
                          · have f1 := decide_eq_false v1
                            by_cases v2 : hi < kx
                            · have f2 := decide_eq_true v2
                              have hlo := Lib.hid (show look Pr.key T kx = look Pr.key S kx by rw [← hT.out, mv_none hs.out (.inl (inB_no (.inl (by omega)))), inB_no (.inr (by omega))]; rfl)
                              obtain ⟨lv, hlv⟩ : ∃ lv, valO (look Pr.key S kx) = lv := ⟨_, rfl⟩
                              obtain ⟨lb, hlb⟩ : ∃ lb, (look Pr.key S kx).isSome = lb := ⟨_, rfl⟩
                              have hlvh := Lib.hid hlv
                              have hlbh := Lib.hid hlb
                              clear hlv hlb
                              go_wp2_with fail
                              have hqn := reads_on hq8 hb3.out
                              refine (has_at S PA nS PC kx wr hqn (by omega)).mono ?_
                              rintro e w2n ⟨hE, hb⟩
                              rw [hlvh.out, hlbh.out] at hE
                              replace hE : e = .returned (.tuple #[.int .u64 lv, .bool lb]) := hE
                              subst hE
                              have bel2n := below_on hb3 hb
                              clear hb hqn
                              obtain ⟨c0, c1⟩ := box2 hBs ((mapAt_on mW bel2n.out).out.bel)
                              obtain ⟨x0, x1⟩ := box2 hBx ((mapAt_on mW bel2n.out).out.bel)
                              go_wp2_with fail
                              refine (getM kx w2n (mapAt_on mW bel2n.out)).mono ?_
                              rintro e wz ⟨hE, hb⟩
                              rw [hlo.out, hlvh.out, hlbh.out] at hE
                              replace hE : e = .returned (.tuple #[.int .u64 lv, .bool lb]) := hE
                              subst hE
                              have hbz := below_on bel2n hb
                              clear hb
                              go_wp2_with fail
                              go_roundg g3
                              case measure => omega
                              case rel => exact ⟨j + 1, by omega, by go_num, hbz⟩
                            · have f2 := decide_eq_false v2
                              have hlo := Lib.hid (show look Pr.key T kx = none by rw [← hT.out, mv_none hs.out (.inl (inB_no (.inl (by omega)))), if_pos (inB_yes (by omega) (by omega))])
                              go_wp2_with fail
                              refine (getM kx wr (mapAt_on mW hb3.out)).mono ?_
                              rintro e wz ⟨hE, hb⟩
                              rw [hlo.out] at hE
                              replace hE : e = .returned (.tuple #[.int .u64 0, .bool false]) := hE
                              subst hE
                              have hbz := below_on hb3 hb
                              clear hb
                              go_wp2_with fail
                              go_roundg g3
                              case measure => omega
                              case rel => exact ⟨j + 1, by omega, by go_num, hbz⟩
                      · have e1 := decide_eq_false u1
                        by_cases v1 : kx < lo
                        · have f1 := decide_eq_true v1
                          have hlo := Lib.hid (show look Pr.key T kx = look Pr.key S kx by rw [← hT.out, mv_none hs.out (.inl (inB_no (.inl (by omega)))), inB_no (.inl (by omega))]; rfl)
                          obtain ⟨lv, hlv⟩ : ∃ lv, valO (look Pr.key S kx) = lv := ⟨_, rfl⟩
                          obtain ⟨lb, hlb⟩ : ∃ lb, (look Pr.key S kx).isSome = lb := ⟨_, rfl⟩
                          have hlvh := Lib.hid hlv
                          have hlbh := Lib.hid hlb
                          clear hlv hlb
                          go_wp2_with fail
                          have hqn := reads_on hq8 hb3.out
                          refine (has_at S PA nS PC kx wr hqn (by omega)).mono ?_
                          rintro e w2n ⟨hE, hb⟩
                          rw [hlvh.out, hlbh.out] at hE
                          replace hE : e = .returned (.tuple #[.int .u64 lv, .bool lb]) := hE
                          subst hE
                          have bel2n := below_on hb3 hb
                          clear hb hqn
                          obtain ⟨c0, c1⟩ := box2 hBs ((mapAt_on mW bel2n.out).out.bel)
                          obtain ⟨x0, x1⟩ := box2 hBx ((mapAt_on mW bel2n.out).out.bel)
                          go_wp2_with fail
                          refine (getM kx w2n (mapAt_on mW bel2n.out)).mono ?_
                          rintro e wz ⟨hE, hb⟩
                          rw [hlo.out, hlvh.out, hlbh.out] at hE
                          replace hE : e = .returned (.tuple #[.int .u64 lv, .bool lb]) := hE
                          subst hE
                          have hbz := below_on bel2n hb
                          clear hb
                          go_wp2_with fail
                          go_roundg g3
                          case measure => omega
                          case rel => exact ⟨j + 1, by omega, by go_num, hbz⟩
                        · have f1 := decide_eq_false v1
                          by_cases v2 : hi < kx
                          · have f2 := decide_eq_true v2
                            have hlo := Lib.hid (show look Pr.key T kx = look Pr.key S kx by rw [← hT.out, mv_none hs.out (.inl (inB_no (.inl (by omega)))), inB_no (.inr (by omega))]; rfl)
                            obtain ⟨lv, hlv⟩ : ∃ lv, valO (look Pr.key S kx) = lv := ⟨_, rfl⟩
                            obtain ⟨lb, hlb⟩ : ∃ lb, (look Pr.key S kx).isSome = lb := ⟨_, rfl⟩
                            have hlvh := Lib.hid hlv
                            have hlbh := Lib.hid hlb
                            clear hlv hlb
                            go_wp2_with fail
                            have hqn := reads_on hq8 hb3.out
                            refine (has_at S PA nS PC kx wr hqn (by omega)).mono ?_
                            rintro e w2n ⟨hE, hb⟩
                            rw [hlvh.out, hlbh.out] at hE
                            replace hE : e = .returned (.tuple #[.int .u64 lv, .bool lb]) := hE
                            subst hE
                            have bel2n := below_on hb3 hb
                            clear hb hqn
                            obtain ⟨c0, c1⟩ := box2 hBs ((mapAt_on mW bel2n.out).out.bel)
                            obtain ⟨x0, x1⟩ := box2 hBx ((mapAt_on mW bel2n.out).out.bel)
                            go_wp2_with fail
                            refine (getM kx w2n (mapAt_on mW bel2n.out)).mono ?_
                            rintro e wz ⟨hE, hb⟩
                            rw [hlo.out, hlvh.out, hlbh.out] at hE
                            replace hE : e = .returned (.tuple #[.int .u64 lv, .bool lb]) := hE
                            subst hE
                            have hbz := below_on bel2n hb
                            clear hb
                            go_wp2_with fail
                            go_roundg g3
                            case measure => omega
                            case rel => exact ⟨j + 1, by omega, by go_num, hbz⟩
                          · have f2 := decide_eq_false v2
                            have hlo := Lib.hid (show look Pr.key T kx = none by rw [← hT.out, mv_none hs.out (.inl (inB_no (.inl (by omega)))), if_pos (inB_yes (by omega) (by omega))])
                            go_wp2_with fail
                            refine (getM kx wr (mapAt_on mW hb3.out)).mono ?_
                            rintro e wz ⟨hE, hb⟩
                            rw [hlo.out] at hE
                            replace hE : e = .returned (.tuple #[.int .u64 0, .bool false]) := hE
                            subst hE
                            have hbz := below_on hb3 hb
                            clear hb
                            go_wp2_with fail
                            go_roundg g3
                            case measure => omega
                            case rel => exact ⟨j + 1, by omega, by go_num, hbz⟩
                | succ g1 =>
                  obtain ⟨b, o, rfl, hbB⟩ := reads_head hr6.out (by omega) (by decide)
                  obtain ⟨⟨pk, pv⟩, hx, q0, q1⟩ := prs_at (hr6.out.below hbel.out) (show i2 < nT by omega)
                  have j0 : (0 : Int) ≤ (i2 : Int) := by omega
                  have j1 : (i2 : Int) < (nT : Int) := by omega
                  have hpw := bounds_u64 (hTw.out _ (List.mem_of_getElem? hx))
                  dsimp only at q0 q1 hpw
                  have hbw : b < wr.heap.size := by have := hsz.out; omega
                  clear hx q1
                  go_wp2_with (at_builtin; refine wpList_append_any _ rfl (.tmp 128) (.tmp 134) 36 rfl (w6.heap.size) 23 i0 _ 1 8 Try.underlying36 hi0 hz0 hz1 hz2 rfl (by decide) u13 K (us ks) rfl (hown.out.alloc _) (wr.heap.size + 1) (some ⟨wr.heap.size, 0, none⟩) 1 1 [.int .u64 pk] rfl ((reads_at wr _ [.int .u64 pk] 1 _ rfl rfl).more (by simp)) (u_one _) (by unfold maxLen; omega) (by omega) (by have := hsz.out; simp; omega) ?_; intro vw9 w9 hown1 hg1 hat1)
                  have hown3 : Hid (w9.ownsRow w6.heap.size 23 1 vw9 (K + 1) (us (ks ++ [pk]))) := own_snocU hown1
                  have hbel3 : Hid (Below w6.heap.size w6 w9) := (hbel.out.alloc hsz.out _).grown hg1 (by have := hsz.out; simp; omega) (fun q hq => (hown.out.lt q hq).1)
                  clear hown1 hg1 hat1
                  have hU3 : Hid (∀ x ∈ ks ++ [pk], U64 x) := fun x hx => by
                    rcases List.mem_append.1 hx with h | h
                    · exact hU.out x h
                    · rw [List.mem_singleton.1 h]; exact hpw
                  have hK3 : Hid ((ks ++ [pk]).length = K + 1) := by unfold Hid; rw [List.length_append, hK.out]; rfl
                  clear hU hK
                  go_wp2_with fail
                  go_roundg g1
                  case measure => omega
                  case rel => exact ⟨i2 + 1, by omega, by go_num, ks ++ [pk], K + 1, hK3, by omega, hU3, hown3, hbel3⟩
            | succ g1 =>
              obtain ⟨b, o, rfl, hbB⟩ := reads_head hq6.out (by omega) (by decide)
              obtain ⟨⟨pk, pv⟩, hx, q0, q1⟩ := prs_at (hq6.out.below hbel.out) (show i < nS by omega)
              have j0 : (0 : Int) ≤ (i : Int) := by omega
              have j1 : (i : Int) < (nS : Int) := by omega
              have hpw := bounds_u64 (hSwh.out _ (List.mem_of_getElem? hx))
              have hit := inR_take (lo := lo) (hi := hi) hx
              dsimp only at q0 q1 hpw hit
              have hbw : b < wr.heap.size := by have := hsz.out; omega
              obtain ⟨cn, hcn⟩ : ∃ cn, (inR lo hi (S.take i)).length = cn := ⟨_, rfl⟩
              have hc60 : cn ≤ 60 := by
                rw [← hcn]
                have h1 : (inR lo hi (S.take i)).length ≤ (S.take i).length := List.length_filter_le _ _
                rw [List.length_take] at h1
                omega
              rw [hcn] at hit ⊢
              have hxh := Lib.hid hx
              clear hx hcn q1
              by_cases u1 : lo ≤ pk
              · have e1 := decide_eq_true u1
                by_cases u2 : pk ≤ hi
                · have e2 := decide_eq_true u2
                  rw [inB_yes u1 u2, if_pos rfl] at hit
                  have sA : IntKind.u64.wrap (pk + xb) = pk + xb := u64_add hpw.1 bb.1 (by omega)
                  have hith := Lib.hid hit
                  clear hit
                  go_wp2_with fail
                  go_quiet (fail)
                  obtain ⟨wd, hwd⟩ : ∃ wd, wr.drewN nq = wd := ⟨_, rfl⟩
                  have hbd : Below wr.heap.size wr wd := by rw [← hwd]; exact below_drewN (Below.refl _ wr) nq
                  have hbel2 := below_on hbel hbd
                  have hown2 := Lib.hid (own_below hown.out hbd)
                  have m9 := mapAt_on m8 hbd
                  have hsz2 := Lib.hid hbel2.out.size
                  have q0' := (hbd.cell (p := ⟨b, o + i * 2, none⟩) hbw).trans q0
                  have hbw2 : b < wd.heap.size := Nat.lt_of_lt_of_le hbw hbd.size
                  rw [hwd]
                  clear hwd hbd hbel hown m8 hsz q0 c0 c1 x0 x1
                  obtain ⟨c0, c1⟩ := box2 hBs m9.out.bel
                  obtain ⟨x0, x1⟩ := box2 hBx m9.out.bel
                  have hD : Below wd.heap.size wd wd.drew := (Below.refl _ wd).drew
                  have hbel4 := below_on hbel2 hD
                  have hown4 := Lib.hid (own_below hown2.out hD)
                  have hsz4 := Lib.hid hbel4.out.size
                  clear hbel2 hown2 m9 hsz2 c0 c1 hD
                  go_wp2_with fail
                  go_region_held3 (fun w' => w'.cell? ⟨b, o + i * 2, none⟩ = some (.int .u64 pk) ∧ w'.cell? ⟨w.heap.size + 1, 1, none⟩ = some (.int .u64 xb))
                    (first
                      | go_keep
                      | exact ⟨q0', x1⟩
                      | exact ⟨r0, y1⟩)
                    ((first
                      | (refine step_append_any _ (by rfl) _ _ _ (by rfl) (w6.heap.size) 23 i0 _ 1 8 Try.underlying36 hi0 hz0 hz1 hz2 rfl (by decide) u13 K (us ks) (by rfl) (hown4.out.alloc _) (wd.heap.size + 1) (some ⟨wd.heap.size, 0, none⟩) 1 1 [.int .u64 (pk + xb)] (by rfl) ((reads_at wd.drew _ [.int .u64 (pk + xb)] 1 _ rfl rfl).more (by simp)) (u_one _) (by unfold maxLen; omega) (by omega) (by have h1 : w6.heap.size ≤ wd.heap.size := hsz4.out; simp; omega) ?_; intro vwf wf hown1 hg1 hat1; have hown5 : Hid (wf.ownsRow w6.heap.size 23 1 vwf (K + 1) (us (ks ++ [pk + xb]))) := own_snocU hown1; have hbel5 : Hid (Below w6.heap.size w6 wf) := (hbel4.out.alloc hsz4.out _).grown hg1 (by have h1 : w6.heap.size ≤ wd.heap.size := hsz4.out; simp; omega) (fun q hq => (hown4.out.lt q hq).1); have hsz5 := Lib.hid hbel5.out.size; obtain ⟨⟨pk', pv'⟩, hx', r0, r1⟩ := prs_at (hq6.out.below hbel5.out) (show i < nS by omega); have hp1 : pk' = pk := (by (have h1 := hxh.out; rw [hx'] at h1; injection h1 with h1; injection h1)); dsimp only at r0; rw [hp1] at r0; clear hx' r1 hp1; obtain ⟨y0, y1⟩ := box2 hBx ((mapAt_on m6 hbel5.out).out.bel))))
                  clear hown1 hg1 hat1 q0' x0 x1 y0 y1
                  go_wp2_with (at_builtin; refine wpList_append_any _ rfl (.tmp 114) (.tmp 120) 36 rfl (w6.heap.size) 23 i0 _ 1 8 Try.underlying36 hi0 hz0 hz1 hz2 rfl (by decide) vwf (K + 1) (us (ks ++ [pk + xb])) rfl (hown5.out.alloc _) (wf.heap.size + 1) (some ⟨wf.heap.size, 0, none⟩) 1 1 [.int .u64 pk] rfl ((reads_at wf _ [.int .u64 pk] 1 _ rfl rfl).more (by simp)) (u_one _) (by unfold maxLen; omega) (by omega) (by have := hsz5.out; simp; omega) ?_; intro vwg wg hown1' hg1' hat1')
                  have hown6 : Hid (wg.ownsRow w6.heap.size 23 1 vwg (K + 1 + 1) (us (ks ++ [pk + xb] ++ [pk]))) := own_snocU hown1'
                  have hbel6 : Hid (Below w6.heap.size w6 wg) := (hbel5.out.alloc hsz5.out _).grown hg1' (by have := hsz5.out; simp; omega) (fun q hq => (hown5.out.lt q hq).1)
                  clear hown1' hg1' hat1'
                  have hU5 : Hid (∀ x ∈ ks ++ [pk + xb], U64 x) := fun x hx => by
                    rcases List.mem_append.1 hx with h | h
                    · exact hU.out x h
                    · rw [List.mem_singleton.1 h]; exact ⟨by omega, by omega⟩
                  have hK5 : Hid ((ks ++ [pk + xb]).length = K + 1) := by unfold Hid; rw [List.length_append, hK.out]; rfl
                  have hU6 : Hid (∀ x ∈ ks ++ [pk + xb] ++ [pk], U64 x) := fun x hx => by
                    rcases List.mem_append.1 hx with h | h
                    · exact hU5.out x h
                    · rw [List.mem_singleton.1 h]; exact hpw
                  have hK6 : Hid ((ks ++ [pk + xb] ++ [pk]).length = K + 1 + 1) := by unfold Hid; rw [List.length_append, hK5.out]; rfl
                  clear hU hK hbel4 hown4 hsz4
                  clear hU5 hK5
                  go_wp2_with fail
                  go_roundg g1
                  case measure => omega
                  case rel => exact ⟨i + 1, by omega, by go_num, by rw [hith.out]; rfl, ks ++ [pk + xb] ++ [pk], K + 1 + 1, hK6, by omega, hU6, hown6, hbel6⟩
                · have e2 := decide_eq_false u2
                  rw [inB_no (.inr (by omega)), if_neg (by decide)] at hit
                  have hith := Lib.hid hit
                  clear hit
                  go_wp2_with fail
                  go_quiet (fail)
                  obtain ⟨wd, hwd⟩ : ∃ wd, wr.drewN nq = wd := ⟨_, rfl⟩
                  have hbd : Below wr.heap.size wr wd := by rw [← hwd]; exact below_drewN (Below.refl _ wr) nq
                  have hbel2 := below_on hbel hbd
                  have hown2 := Lib.hid (own_below hown.out hbd)
                  have m9 := mapAt_on m8 hbd
                  have hsz2 := Lib.hid hbel2.out.size
                  have q0' := (hbd.cell (p := ⟨b, o + i * 2, none⟩) hbw).trans q0
                  rw [hwd]
                  clear hwd hbd hbel hown m8 hsz q0 c0 c1 x0 x1
                  go_wp2_with (at_builtin; refine wpList_append_any _ rfl (.tmp 114) (.tmp 120) 36 rfl (w6.heap.size) 23 i0 _ 1 8 Try.underlying36 hi0 hz0 hz1 hz2 rfl (by decide) u13 K (us ks) rfl (hown2.out.alloc _) (wd.heap.size + 1) (some ⟨wd.heap.size, 0, none⟩) 1 1 [.int .u64 pk] rfl ((reads_at wd _ [.int .u64 pk] 1 _ rfl rfl).more (by simp)) (u_one _) (by unfold maxLen; omega) (by omega) (by have := hsz2.out; simp; omega) ?_; intro vw9 w9 hown1 hg1 hat1)
                  have hown3 : Hid (w9.ownsRow w6.heap.size 23 1 vw9 (K + 1) (us (ks ++ [pk]))) := own_snocU hown1
                  have hbel3 : Hid (Below w6.heap.size w6 w9) := (hbel2.out.alloc hsz2.out _).grown hg1 (by have := hsz2.out; simp; omega) (fun q hq => (hown2.out.lt q hq).1)
                  clear hown1 hg1 hat1
                  have hU3 : Hid (∀ x ∈ ks ++ [pk], U64 x) := fun x hx => by
                    rcases List.mem_append.1 hx with h | h
                    · exact hU.out x h
                    · rw [List.mem_singleton.1 h]; exact hpw
                  have hK3 : Hid ((ks ++ [pk]).length = K + 1) := by unfold Hid; rw [List.length_append, hK.out]; rfl
                  clear hU hK
                  go_wp2_with fail
                  go_roundg g1
                  case measure => omega
                  case rel => exact ⟨i + 1, by omega, by go_num, by rw [hith.out]; rfl, ks ++ [pk], K + 1, hK3, by omega, hU3, hown3, hbel3⟩
              · have e1 := decide_eq_false u1
                rw [inB_no (.inl (by omega)), if_neg (by decide)] at hit
                have hith := Lib.hid hit
                clear hit
                go_wp2_with fail
                go_quiet (fail)
                obtain ⟨wd, hwd⟩ : ∃ wd, wr.drewN nq = wd := ⟨_, rfl⟩
                have hbd : Below wr.heap.size wr wd := by rw [← hwd]; exact below_drewN (Below.refl _ wr) nq
                have hbel2 := below_on hbel hbd
                have hown2 := Lib.hid (own_below hown.out hbd)
                have m9 := mapAt_on m8 hbd
                have hsz2 := Lib.hid hbel2.out.size
                have q0' := (hbd.cell (p := ⟨b, o + i * 2, none⟩) hbw).trans q0
                rw [hwd]
                clear hwd hbd hbel hown m8 hsz q0 c0 c1 x0 x1
                go_wp2_with (at_builtin; refine wpList_append_any _ rfl (.tmp 114) (.tmp 120) 36 rfl (w6.heap.size) 23 i0 _ 1 8 Try.underlying36 hi0 hz0 hz1 hz2 rfl (by decide) u13 K (us ks) rfl (hown2.out.alloc _) (wd.heap.size + 1) (some ⟨wd.heap.size, 0, none⟩) 1 1 [.int .u64 pk] rfl ((reads_at wd _ [.int .u64 pk] 1 _ rfl rfl).more (by simp)) (u_one _) (by unfold maxLen; omega) (by omega) (by have := hsz2.out; simp; omega) ?_; intro vw9 w9 hown1 hg1 hat1)
                have hown3 : Hid (w9.ownsRow w6.heap.size 23 1 vw9 (K + 1) (us (ks ++ [pk]))) := own_snocU hown1
                have hbel3 : Hid (Below w6.heap.size w6 w9) := (hbel2.out.alloc hsz2.out _).grown hg1 (by have := hsz2.out; simp; omega) (fun q hq => (hown2.out.lt q hq).1)
                clear hown1 hg1 hat1
                have hU3 : Hid (∀ x ∈ ks ++ [pk], U64 x) := fun x hx => by
                  rcases List.mem_append.1 hx with h | h
                  · exact hU.out x h
                  · rw [List.mem_singleton.1 h]; exact hpw
                have hK3 : Hid ((ks ++ [pk]).length = K + 1) := by unfold Hid; rw [List.length_append, hK.out]; rfl
                clear hU hK
                go_wp2_with fail
                go_roundg g1
                case measure => omega
                case rel => exact ⟨i + 1, by omega, by go_num, by rw [hith.out]; rfl, ks ++ [pk], K + 1, hK3, by omega, hU3, hown3, hbel3⟩
theorem moves_law (A : Option Addr) (n c : Nat) (l : List Pr) (lo hi xk xb : Int) (w : World) (hI : IsPairs w A n c l) (hz : n * 16 ≤ 140737488351232) (wlo : (Lit.int .u64 lo).wf = true) (whi : (Lit.int .u64 hi).wf = true) (wk : (Lit.int .u64 xk).wf = true) (wb : (Lit.int .u64 xb).wf = true) :
    Calls Try.prog 3 #[.slice A n c, .agg #[.int .u64 lo, .int .u64 hi], .agg #[.int .u64 xk, .int .u64 xb]] w fun e w' => e = .returned (.bool true) ∧ Below w.heap.size w w' :=
  moves_core A n c l lo hi xk xb w hI.reads hz (fun p hp => (hI.wf p hp).1) wlo whi wk wb
end Go.Proofs.Ytfghkmhabpagkaa
