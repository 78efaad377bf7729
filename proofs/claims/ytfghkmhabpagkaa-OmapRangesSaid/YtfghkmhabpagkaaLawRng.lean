/- The law OmapRanges, walked (printed by gen_lawrng.py). -/
import Derived.Test.YtfghkmhabpagkaaLawMov
import Derived.Test.YtfghkmhabpagkaaLawRet
import Derived.Test.YtfghkmhabpagkaaONext
import Derived.Deep.CutBlock
namespace Go.Proofs.Ytfghkmhabpagkaa
open Go Go.RowKit
set_option linter.unusedVariables false
attribute [local go_sem ↓] Go.wp_at_zero Go.wp_at_succ

theorem inR_join {a b c : Int} (h1 : a ≤ b) (h2 : b ≤ c + 1) : ∀ {S : List Pr}, Srt Pr.key S → inR a (b - 1) S ++ inR b c S = inR a c S
  | [], _ => rfl
  | p :: S, hs => by
    obtain ⟨hlt, hs'⟩ := srt_cons.1 hs
    have ih := inR_join h1 h2 hs'
    unfold inR at ih ⊢
    rw [List.filter_cons, List.filter_cons, List.filter_cons]
    by_cases k1 : b ≤ p.key
    · have hnil : S.filter (fun p => inB a (b - 1) p.key) = [] := List.filter_eq_nil_iff.2 fun q hq => by
        have := hlt q hq
        rw [inB_no (.inr (by omega))]
        decide
      rw [hnil, List.nil_append] at ih
      rw [inB_no (lo := a) (hi := b - 1) (.inr (by omega)), hnil, if_neg (by decide), List.nil_append]
      by_cases k2 : p.key ≤ c
      · rw [inB_yes k1 k2, inB_yes (by omega) k2, if_pos rfl, if_pos rfl, ih]
      · rw [inB_no (lo := b) (hi := c) (.inr (by omega)), inB_no (lo := a) (hi := c) (.inr (by omega)), if_neg (by decide), if_neg (by decide), ih]
    · rw [inB_no (lo := b) (hi := c) (.inl (by omega)), if_neg (show ¬ (false = true) by decide)]
      by_cases k2 : a ≤ p.key
      · rw [inB_yes (lo := a) (hi := b - 1) k2 (by omega), inB_yes (lo := a) (hi := c) k2 (by omega), if_pos rfl, if_pos rfl, List.cons_append, ih]
      · rw [inB_no (lo := a) (hi := b - 1) (.inl (by omega)), inB_no (lo := a) (hi := c) (.inl (by omega)), if_neg (by decide), if_neg (by decide), ih]
theorem inR_all {S : List Pr} (hw : ∀ p ∈ S, (Lit.int .u64 p.key).wf = true) : inR 0 18446744073709551615 S = S := by
  unfold inR
  rw [List.filter_eq_self]
  intro p hp
  have := bounds_u64 (hw p hp)
  exact inB_yes this.1 this.2
theorem in_out_nil {S : List Pr} {lo hi : Int} : inR lo hi (outR lo hi S) = [] := by
  unfold inR outR
  rw [List.filter_filter, List.filter_eq_nil_iff]
  intro p _
  cases inB lo hi p.key <;> simp
theorem head_some {L : List Pr} {n : Nat} (hn : L.length = n) (h : 0 < n) : ∃ p, L.head? = some p ∧ L[0]? = some p := by
  cases L with
  | nil => simp at hn; omega
  | cons p L => exact ⟨p, rfl, rfl⟩
theorem box2s {W w : World} {b : Nat} {T : TypeId} {x y : Int} (hB : Hid (Blk W b T #[.int .u64 x, .int .u64 y])) (hb : Below W.heap.size W w) : w.cell? ⟨b, 0, none⟩ = some (.int .u64 x) ∧ w.cell? ⟨b, 1, none⟩ = some (.int .u64 y) := box2 hB hb

set_option maxRecDepth 100000 in
set_option maxHeartbeats 16000000 in
theorem ranges_core (A : Option Addr) (n c : Nat) (l : List Pr) (lo hi : Int) (w : World) (hr : Hid (Reads w w.heap.size 2 A n (prs l))) (hz : n * 16 ≤ 140737488351232) (hw : ∀ p ∈ l, (Lit.int .u64 p.key).wf = true) (wlo : (Lit.int .u64 lo).wf = true) (whi : (Lit.int .u64 hi).wf = true) :
    Calls Try.prog 6 #[.slice A n c, .agg #[.int .u64 lo, .int .u64 hi]] w fun e w' => e = .returned (.bool true) ∧ Below w.heap.size w w' := by
  have blo := bounds_u64 wlo
  have bhi := bounds_u64 whi
  have hll := Lib.hid (prs_n hr.out)
  obtain ⟨W, hW⟩ : ∃ W, w.alloc (.cells #[.int .u64 lo, .int .u64 hi] 25) = W := ⟨_, rfl⟩
  have hb0 : Hid (Below w.heap.size w W) := by rw [← hW]; exact (Below.refl _ _).alloc (Nat.le_refl _) _
  have hBs : Hid (Blk W w.heap.size 25 #[.int .u64 lo, .int .u64 hi]) := by rw [← hW]; exact Blk.new w _ _
  have hr0 : Hid (Reads W W.heap.size 2 A n (prs l)) := (hr.out.below hb0.out).more hb0.out.size
  have hmade := made_any l A n c W hr0 hz
  clear hr hr0
  have hmk : Hid (Calls Try.prog 11 #[.slice A n c] W fun e w' => ∃ ad, e = .returned (.pointer ad) ∧ Below W.heap.size W w') := hmade.mono fun e w' h => by
    obtain ⟨hb, ⟨_, h⟩ | ⟨_, g, v, h, _⟩⟩ := h
    · exact ⟨_, h, hb⟩
    · exact ⟨_, h, hb⟩
  by_cases t1 : 60 < n
  · have d1 : (60 : Int) < (n : Int) := by omega
    clear hmade
    go_enter Try.func6, Try.ntmps6
    go_wp2_with fail
    refine hmk.out.mono ?_
    rintro e w1 ⟨ad, rfl, hb⟩
    obtain ⟨c0, c1⟩ := box2s hBs hb
    have hb1 := below_on hb0 hb
    clear hb hmk hW
    go_wp2_with fail
    refine (known_any _).mono ?_
    rintro e w2 ⟨rfl, hb⟩
    have hbe := below_on hb1 hb
    clear hb
    go_wp2_with fail
    go_ret
    exact ⟨rfl, hbe.out⟩
  · have d1 : ¬ (60 : Int) < (n : Int) := by omega
    by_cases t2 : hi < lo
    · have d2 := decide_eq_true t2
      clear hmade
      go_enter Try.func6, Try.ntmps6
      go_wp2_with fail
      refine hmk.out.mono ?_
      rintro e w1 ⟨ad, rfl, hb⟩
      obtain ⟨c0, c1⟩ := box2s hBs hb
      have hb1 := below_on hb0 hb
      clear hb hmk hW
      go_wp2_with fail
      refine (known_any _).mono ?_
      rintro e w2 ⟨rfl, hb⟩
      have hbe := below_on hb1 hb
      clear hb
      go_wp2_with fail
      go_ret
      exact ⟨rfl, hbe.out⟩
    · have d2 := decide_eq_false t2
      have hf60 : (firsts l).length ≤ 60 := by
        have h1 := firsts_len l l.length
        rw [← firsts_all, hll.out] at h1
        omega
      have hS60 : (madeL l).length ≤ 60 := Nat.le_trans (madeL_len l) hf60
      have hSw : ∀ p ∈ madeL l, (Lit.int .u64 p.key).wf = true := fun p hp => hw p (madeL_mem hp)
      clear hmk
      go_enter Try.func6, Try.ntmps6
      go_wp2_with fail
      try rw [hW]
      refine hmade.mono ?_
      rintro e w1 ⟨hb, ⟨h60, _⟩ | ⟨_, g, v, rfl, ho⟩⟩
      · omega
      have m1 : Hid (MapAt W w1 g v (madeL l)) := ⟨ho, hb⟩
      obtain ⟨S, hS⟩ : ∃ S, madeL l = S := ⟨_, rfl⟩
      rw [hS] at m1 hS60 hSw
      have hs : Hid (Srt Pr.key S) := m1.out.o.srt
      have hSwh := Lib.hid hSw
      clear hmade hb ho hf60 hS hW hw hSw
      obtain ⟨c0, c1⟩ := box2s hBs m1.out.bel
      go_wp2_with fail
      refine (copyM w1 m1).mono ?_
      rintro e w2 ⟨g2, v2, rfl, ho, hb⟩
      have f2 := off_new m1.out ho
      have k2 : Hid (MapAt W w2 g2 v2 S) := mapAt_new m1.out.bel ho hb
      have m2 := mapAt_on m1 hb
      clear m1 ho hb c0 c1
      obtain ⟨c0, c1⟩ := box2s hBs m2.out.bel
      go_wp2_with fail
      refine (pairsM w2 m2).mono ?_
      rintro e w3 ⟨PA, PC, rfl, hown, hb⟩
      have hq3 : Hid (Reads w3 w3.heap.size 2 PA S.length (prs S)) := Reads.of_own hown
      have m3 := mapAt_on m2 hb
      have k3 := mapAt_on k2 hb
      have f3 := off_on f2 (Stays.of_below hb)
      obtain ⟨nS, hnS⟩ : ∃ nS, S.length = nS := ⟨_, rfl⟩
      rw [hnS] at hq3 hS60
      have hnSh := Lib.hid hnS
      try rw [hnS]
      clear m2 k2 f2 hown hb hnS c0 c1
      obtain ⟨c0, c1⟩ := box2s hBs m3.out.bel
      go_wp2_with fail
      refine (rngM lo hi w3 m3 (by have := hnSh.out; omega) (by omega)).mono ?_
      rintro e w4 ⟨LA, LC, rfl, hown, hb⟩
      have hrL4 : Hid (Reads w4 w4.heap.size 2 LA (inR lo hi S).length (prs (inR lo hi S))) := Reads.of_own hown
      have hq4 := reads_on hq3 hb
      have m4 := mapAt_on m3 hb
      have k4 := mapAt_on k3 hb
      have f4 := off_on f3 (Stays.of_below hb)
      obtain ⟨nL, hnL⟩ : ∃ nL, (inR lo hi S).length = nL := ⟨_, rfl⟩
      have hnLh := Lib.hid hnL
      have hL60 : nL ≤ 60 := by rw [← hnL]; have h1 : (inR lo hi S).length ≤ S.length := List.length_filter_le _ _; have := hnSh.out; omega
      rw [hnL] at hrL4
      try rw [hnL]
      clear m3 k3 f3 hq3 hown hb hnL c0 c1
      obtain ⟨L, hL⟩ : ∃ L, Hid (inR lo hi S = L) := ⟨_, rfl⟩
      rw [hL.out] at hrL4 hnLh
      have hLn : Hid (L.length = nL) := hnLh
      obtain ⟨c0, c1⟩ := box2s hBs m4.out.bel
      go_wp2_with fail
      refine (nextM lo hi w4 m4 (by omega)).mono ?_
      rintro e w5 ⟨hE, hb⟩
      rw [hL.out] at hE
      have hrL5 := reads_on hrL4 hb
      have hq5 := reads_on hq4 hb
      have m5 := mapAt_on m4 hb
      have k5 := mapAt_on k4 hb
      have f5 := off_on f4 (Stays.of_below hb)
      clear m4 k4 f4 hq4 hrL4 hb c0 c1
      obtain ⟨i0, hi0, hz0, hz1, hz2⟩ := info_parts infoPair
      have sL : 0 < lo → IntKind.u64.wrap (lo - 1) = lo - 1 := fun h => u64_sub (by decide) (by omega) (by omega)
      have sH : hi < 18446744073709551615 → IntKind.u64.wrap (hi + 1) = hi + 1 := fun h => u64_add bhi.1 (by decide) (by omega)
      by_cases hn0 : 0 < nL
      · obtain ⟨⟨pk, pv⟩, hp1, hp2⟩ := head_some hLn.out hn0
        rw [hp1] at hE
        clear hp1
        replace hE : e = .returned (.tuple #[.agg #[.int .u64 pk, .int .u64 pv], .bool true, .int .i64 0]) := hE
        subst hE
        obtain ⟨w6, hw6⟩ : ∃ w6, w5.alloc (.cells #[.int .u64 pk, .int .u64 pv] 38) = w6 := ⟨_, rfl⟩
        have hb6 : Below w5.heap.size w5 w6 := by rw [← hw6]; exact (Below.refl _ _).alloc (Nat.le_refl _) _
        have hBp : Hid (Blk w6 w5.heap.size 38 #[.int .u64 pk, .int .u64 pv]) := by rw [← hw6]; exact Blk.new w5 _ _
        have m6 := mapAt_on m5 hb6
        have k6 := mapAt_on k5 hb6
        have f6 := off_on f5 (Stays.of_below hb6)
        have hq6 := reads_on hq5 hb6
        have hrL6 := reads_on hrL5 hb6
        have y0 := hBp.out.cell 0
        have y1 := hBp.out.cell 1
        simp only [List.getElem?_toArray, List.getElem?_cons_zero, List.getElem?_cons_succ] at y0 y1
        have heq : ∀ w, (Op.equalIn 10000 38 (.agg #[.int .u64 pk, .int .u64 pv]) (.agg #[.int .u64 pk, .int .u64 pv])).run Try.prog w = .ok true w := fun w => by rw [eqP]; simp
        obtain ⟨bL, oL, rfl, hbL⟩ := reads_head hrL6.out hn0 (by decide)
        obtain ⟨x, hx, r0, r1⟩ := prs_at hrL6.out hn0
        obtain rfl := Option.some.inj (hx.symm.trans hp2)
        dsimp only at r0 r1
        simp only [Nat.zero_mul, Nat.add_zero] at r0 r1
        have e9 : (0 : Int) < (nL : Int) := by omega
        clear hx hp2
        have hw6h := Lib.hid hw6
        clear m5 k5 f5 hq5 hrL5 hb6 hw6
        go_wp2_with fail
        rw [hw6h.out]
        clear hw6h
        go_quiet (fail)
        obtain ⟨wB, hwB⟩ : ∃ wB, w6.drewN nq = wB := ⟨_, rfl⟩
        have hbd : Below w6.heap.size w6 wB := by rw [← hwB]; exact below_drewN (Below.refl _ w6) nq
        have mB := mapAt_on m6 hbd
        have kB := mapAt_on k6 hbd
        have fB := off_on f6 (Stays.of_below hbd)
        have hqB := reads_on hq6 hbd
        have hrL := reads_on hrL6 hbd
        have hbB : Hid (Below wB.heap.size wB wB) := Below.refl _ _
        rw [hwB]
        clear hwB hbd m6 k6 f6 hq6 hrL6 y0 y1 heq hBp r0 r1
        obtain ⟨c0, c1⟩ := box2s hBs mB.out.bel
        go_upto_if 91 with fail
        go_cut [13] from 91 to 106 (fun s13 wx => ∃ (J : List Pr) (NJ : Nat), Hid (J.length = NJ) ∧ NJ ≤ 60 ∧ Hid (J ++ L = inR 0 hi S) ∧ Hid (wx.ownsRow wB.heap.size 38 2 s13 NJ (prs J)) ∧ Hid (Below wB.heap.size wB wx))
        case first =>
          by_cases q1 : 0 < lo
          · have e1 := decide_eq_true q1
            have s1 := sL q1
            go_wp2_with fail
            refine (rngM 0 (lo - 1) wB mB (by have := hnSh.out; omega) (by omega)).mono ?_
            rintro e w5 ⟨XA, XC, rfl, hown, hb⟩
            have hrX : Hid (Reads w5 w5.heap.size 2 XA (inR 0 (lo - 1) S).length (prs (inR 0 (lo - 1) S))) := Reads.of_own hown
            have hb5 : Hid (Below wB.heap.size wB w5) := hb
            have hs5 := Lib.hid hb.size
            obtain ⟨nX, hnX⟩ : ∃ nX, (inR 0 (lo - 1) S).length = nX := ⟨_, rfl⟩
            have hnXh := Lib.hid hnX
            have hX60 : nX ≤ 60 := by rw [← hnX]; have h1 : (inR 0 (lo - 1) S).length ≤ S.length := List.length_filter_le _ _; have := hnSh.out; omega
            rw [hnX] at hrX
            try rw [hnX]
            clear hown hb hnX c0 c1
            go_wp2_with (at_builtin; refine wpList_append_any _ rfl (.tmp 103) (.tmp 104) 22 rfl (wB.heap.size) 38 i0 _ 2 16 Try.underlying22 hi0 hz0 hz1 hz2 rfl (by decide) (.slice none 0 0) 0 [] rfl (World.ownsRow_nil _ _ _ _) (w5.heap.size) XA nX XC (prs (inR 0 (lo - 1) S)) rfl hrX.out (prs_one _) (by unfold maxLen; omega) (by omega) hs5.out ?_; intro v6 w6 hown1 hg1 hat1)
            have hown6 : Hid (w6.ownsRow wB.heap.size 38 2 v6 nX (prs (inR 0 (lo - 1) S))) := by have h1 := hown1; rw [Nat.zero_add, List.nil_append] at h1; exact h1
            have hb6 : Hid (Below wB.heap.size wB w6) := hb5.out.grown hg1 hs5.out (fun q hq => by cases hq)
            have hJL : Hid (inR 0 (lo - 1) S ++ L = inR 0 hi S) := by unfold Hid; rw [← hL.out]; exact inR_join (by omega) (by omega) hs.out
            clear hown1 hg1 hat1 hrX hb5 hs5
            go_wp2_with fail
            go_meet
            exact ⟨inR 0 (lo - 1) S, nX, hnXh, hX60, hJL, hown6, hb6⟩
          · have e1 := decide_eq_false q1
            go_wp2_with fail
            go_meet
            exact ⟨[], 0, rfl, by omega, by unfold Hid; rw [← hL.out, show lo = 0 by omega]; rfl, World.ownsRow_nil _ _ _ _, hbB⟩
        case rest =>
          obtain ⟨J, NJ, hNJ, hNJ60, hJL, hownJ, hbJ⟩ := hcut
          obtain ⟨KA, KC, rfl, _⟩ := own_form hownJ.out
          obtain ⟨wJ, rfl⟩ : ∃ wJ : World, wJ = wc := ⟨_, rfl⟩
          have hsJ := Lib.hid hbJ.out.size
          have hrLJ := reads_on hrL hbJ.out
          clear c0 c1
          obtain ⟨c0, c1⟩ := box2s hBs (mapAt_on mB hbJ.out).out.bel
          go_upto_if 111 with (at_builtin; refine wpList_append_any _ rfl (.tmp 106) (.tmp 107) 22 rfl (wB.heap.size) 38 i0 _ 2 16 Try.underlying22 hi0 hz0 hz1 hz2 rfl (by decide) (.slice KA NJ KC) NJ (prs J) rfl hownJ.out (wJ.heap.size) (some ⟨bL, oL, none⟩) nL LC (prs L) rfl hrLJ.out (prs_one _) (by unfold maxLen; omega) (by omega) hsJ.out ?_; intro v7 w7 hown1 hg1 hat1; have hb7 : Hid (Below wB.heap.size wB w7) := hbJ.out.grown hg1 hsJ.out (fun q hq => (hownJ.out.lt q hq).1); obtain ⟨z0, z1⟩ := box2s hBs ((mapAt_on mB hb7.out).out.bel))
          have hown7 : Hid (w7.ownsRow wB.heap.size 38 2 v7 (NJ + nL) (prs (inR 0 hi S))) := by have h1 := hown1; rw [← prs_append, hJL.out] at h1; exact h1
          have hn7 : Hid ((inR 0 hi S).length = NJ + nL) := by unfold Hid; rw [← hJL.out, List.length_append, hNJ.out, hLn.out]
          clear hown1 hg1 hat1 hownJ hbJ hsJ hrLJ c0 c1
          go_cut [13] from 111 to 126 (fun s13 wx => Hid (wx.ownsRow wB.heap.size 38 2 s13 nS (prs S)) ∧ Hid (Below wB.heap.size wB wx))
          case first =>
            by_cases q2 : hi < 18446744073709551615
            · have e2 := decide_eq_true q2
              have s2 := sH q2
              go_wp2_with fail
              refine (rngM (hi + 1) 18446744073709551615 w7 (mapAt_on mB hb7.out) (by have := hnSh.out; omega) (by omega)).mono ?_
              rintro e w8 ⟨YA, YC, rfl, hown, hb⟩
              have hrY : Hid (Reads w8 w8.heap.size 2 YA (inR (hi + 1) 18446744073709551615 S).length (prs (inR (hi + 1) 18446744073709551615 S))) := Reads.of_own hown
              have hb8 := below_on hb7 hb
              have hs8 := Lib.hid hb8.out.size
              have hown8 := Lib.hid (own_below hown7.out hb)
              obtain ⟨nY, hnY⟩ : ∃ nY, (inR (hi + 1) 18446744073709551615 S).length = nY := ⟨_, rfl⟩
              have hnYh := Lib.hid hnY
              have hY60 : nY ≤ 60 := by rw [← hnY]; have h1 : (inR (hi + 1) 18446744073709551615 S).length ≤ S.length := List.length_filter_le _ _; have := hnSh.out; omega
              rw [hnY] at hrY
              try rw [hnY]
              clear hown hb hnY z0 z1 hown7 hb7
              go_wp2_with (at_builtin; refine wpList_append_any _ rfl (.tmp 123) (.tmp 124) 22 rfl (wB.heap.size) 38 i0 _ 2 16 Try.underlying22 hi0 hz0 hz1 hz2 rfl (by decide) v7 (NJ + nL) (prs (inR 0 hi S)) rfl hown8.out (w8.heap.size) YA nY YC (prs (inR (hi + 1) 18446744073709551615 S)) rfl hrY.out (prs_one _) (by unfold maxLen; omega) (by omega) hs8.out ?_; intro v9 w9 hown1 hg1 hat1)
              have hJ : Hid (inR 0 hi S ++ inR (hi + 1) 18446744073709551615 S = S) := by
                unfold Hid
                have h2 := inR_join (a := 0) (b := hi + 1) (c := 18446744073709551615) (by omega) (by omega) hs.out
                rw [show hi + 1 - 1 = hi by omega] at h2
                rw [h2]
                exact inR_all hSwh.out
              have hN9 : NJ + nL + nY = nS := by
                have h1 := congrArg List.length hJ.out
                rw [List.length_append, hn7.out, hnYh.out, hnSh.out] at h1
                exact h1
              have hown9 : Hid (w9.ownsRow wB.heap.size 38 2 v9 nS (prs S)) := by have h1 := hown1; rw [← prs_append, hJ.out, hN9] at h1; exact h1
              have hb9 : Hid (Below wB.heap.size wB w9) := hb8.out.grown hg1 hs8.out (fun q hq => (hown8.out.lt q hq).1)
              clear hown1 hg1 hat1 hown8 hb8 hs8 hrY
              go_wp2_with fail
              go_meet
              exact ⟨hown9, hb9⟩
            · have e2 := decide_eq_false q2
              have hJ : Hid (inR 0 hi S = S) := by unfold Hid; rw [show hi = 18446744073709551615 by omega]; exact inR_all hSwh.out
              have hN9 : NJ + nL = nS := by
                have h1 := hn7.out
                rw [hJ.out, hnSh.out] at h1
                exact h1.symm
              rw [hJ.out, hN9] at hown7
              go_wp2_with fail
              go_meet
              exact ⟨hown7, hb7⟩
          case rest =>
            obtain ⟨hown9, hbJ⟩ := hcut
            obtain ⟨JA, JC, rfl, _⟩ := own_form hown9.out
            obtain ⟨wK, rfl⟩ : ∃ wK : World, wK = wc := ⟨_, rfl⟩
            have hrJ : Hid (Reads wK wK.heap.size 2 JA nS (prs S)) := Reads.of_own hown9.out
            clear hown7 hb7 hown9
            have mJ := mapAt_on mB hbJ.out
            have kJ := mapAt_on kB hbJ.out
            have fJ := off_on fB (Stays.of_below hbJ.out)
            have hqJ := reads_on hqB hbJ.out
            clear mB kB fB hqB hrL hbB hbJ z0 z1 sL sH
            go_wp2_with fail
            go_loopg [18] nS (fun gk iv w' => ∃ i : Nat, i + gk = nS ∧ iv = .int .i64 i ∧ Hid (Below wK.heap.size wK w'))
            case atStart => exact ⟨0, by omega, rfl, Below.refl _ _⟩
            case round =>
              obtain ⟨i, hgi, rfl, hbel⟩ := hrel
              cases gk with
              | zero =>
                obtain rfl : nS = i := by omega
                have m7 := mapAt_on mJ hbel.out
                have k7 := mapAt_on kJ hbel.out
                have f7 := off_on fJ (Stays.of_below hbel.out)
                obtain ⟨c0, c1⟩ := box2s hBs m7.out.bel
                clear hqJ hrJ hbel mJ kJ fJ
                go_wp2_with fail
                refine (delRM lo hi wr m7 (by omega)).mono ?_
                rintro e w8 ⟨hE, v8, hm, hst⟩
                rw [hL.out, hLn.out] at hE
                subst hE
                have m8 := Lib.hid hm
                have k8 := mapAt_off k7 f7 hst hm.bel
                clear hm hst m7 k7 f7 c0 c1
                obtain ⟨c0, c1⟩ := box2s hBs m8.out.bel
                go_wp2_with fail
                refine (rngM lo hi w8 m8 (by have h1 : (outR lo hi S).length ≤ S.length := List.length_filter_le _ _; have := hnSh.out; omega) (by omega)).mono ?_
                rintro e w9 ⟨ZA, ZC, hE, _, hb⟩
                rw [in_out_nil] at hE
                replace hE : e = .returned (.tuple #[.slice ZA 0 ZC, .int .i64 0]) := hE
                subst hE
                have m9 := mapAt_on m8 hb
                have k9 := mapAt_on k8 hb
                clear hb m8 k8 c0 c1
                obtain ⟨nO, hnO⟩ : ∃ nO, (outR lo hi S).length = nO := ⟨_, rfl⟩
                have hio := in_out_len lo hi S
                rw [hL.out, hLn.out, hnO, hnSh.out] at hio
                have hnOh := Lib.hid hnO
                have hwr : IntKind.i64.wrap ((nS : Int) - (nL : Int)) = (nO : Int) := by rw [i64_sm (by omega) (by omega)]; omega
                clear hnO
                go_wp2_with fail
                refine (lenM w9 m9).mono ?_
                rintro e wa ⟨hE, hb⟩
                rw [hnOh.out] at hE
                subst hE
                have ma := mapAt_on m9 hb
                have ka := mapAt_on k9 hb
                clear hb m9 k9
                go_wp2_with fail
                refine (lenM wa ka).mono ?_
                rintro e wb ⟨hE, hb⟩
                rw [hnSh.out] at hE
                subst hE
                have mb := mapAt_on ma hb
                have kb := mapAt_on ka hb
                clear hb ma ka
                go_wp2_with fail
                refine (equalM wb mb kb).mono ?_
                rintro e wd ⟨hE, hb⟩
                have hdd : decide (outR lo hi S = S) = decide (nL = 0) := by
                  by_cases h0 : nL = 0
                  · rw [decide_eq_true h0]
                    have h1 : L = [] := List.eq_nil_of_length_eq_zero (by rw [hLn.out]; exact h0)
                    refine decide_eq_true (List.filter_eq_self.2 fun p hp => ?_)
                    have h2 : inR lo hi S = [] := by rw [hL.out]; exact h1
                    have h3 := List.filter_eq_nil_iff.1 h2 p hp
                    simpa using h3
                  · rw [decide_eq_false h0]
                    refine decide_eq_false fun h => ?_
                    have h1 := congrArg List.length h
                    rw [hnOh.out, hnSh.out] at h1
                    omega
                rw [hdd] at hE
                have hz1 : Hid (nL = 0 ∨ 0 < nL) := by unfold Hid; omega
                have md := mapAt_on mb hb
                clear hb mb kb hdd
                rcases hz1.out with h0 | h0
                · rw [decide_eq_true h0] at hE
                  subst hE
                  have e0 : ((nL : Int) == 0) = true := by simp; omega
                  clear h0
                  go_wp2_with fail
                  refine (known_any _).mono ?_
                  rintro e wz ⟨rfl, hb⟩
                  have hbe := below_on (below_on hb0 md.out.bel) hb
                  clear hb
                  go_wp2_with fail
                  go_ret
                  exact ⟨rfl, hbe.out⟩
                · rw [decide_eq_false (by omega)] at hE
                  subst hE
                  have e0 : ((nL : Int) == 0) = false := by simp; omega
                  clear h0
                  go_wp2_with fail
                  refine (known_any _).mono ?_
                  rintro e wz ⟨rfl, hb⟩
                  have hbe := below_on (below_on hb0 md.out.bel) hb
                  clear hb
                  go_wp2_with fail
                  go_ret
                  exact ⟨rfl, hbe.out⟩
              | succ g3 =>
                obtain ⟨b, o, rfl, hbB⟩ := reads_head hqJ.out (by omega) (by decide)
                obtain ⟨b', o', rfl, hbB'⟩ := reads_head hrJ.out (by omega) (by decide)
                obtain ⟨x, hx, q0, q1⟩ := prs_at (hqJ.out.below hbel.out) (show i < nS by omega)
                obtain ⟨y, hy, r0, r1⟩ := prs_at (hrJ.out.below hbel.out) (show i < nS by omega)
                obtain rfl := Option.some.inj (hx.symm.trans hy)
                obtain ⟨pk, pv⟩ := x
                dsimp only at q0 q1 r0 r1
                have heq : ∀ w, (Op.equalIn 10000 38 (.agg #[.int .u64 pk, .int .u64 pv]) (.agg #[.int .u64 pk, .int .u64 pv])).run Try.prog w = .ok true w := fun w => by rw [eqP]; simp
                have j0 : (0 : Int) ≤ (i : Int) := by omega
                have j1 : (i : Int) < (nS : Int) := by omega
                clear hx hy
                go_wp2_with fail
                go_quiet (fail)
                go_wp2_with fail
                go_roundg g3
                case measure => omega
                case rel => exact ⟨i + 1, by omega, by go_num, below_drewN hbel _⟩
      · have hn00 : nL = 0 := by omega
        have hLe : L = [] := List.eq_nil_of_length_eq_zero (by rw [hLn.out]; exact hn00)
        rw [show L.head? = none by rw [hLe]; rfl] at hE
        clear hLe hn0
        have e9 : ¬ (0 : Int) < (nL : Int) := by omega
        have e9' : decide ((0 : Int) < (nL : Int)) = false := decide_eq_false e9
        have e9'' : decide (0 < nL) = false := by simpa using e9
        clear hn00
        replace hE : e = .returned (.tuple #[.agg #[.int .u64 0, .int .u64 0], .bool false, .int .i64 0]) := hE
        subst hE
        obtain ⟨w6, hw6⟩ : ∃ w6, w5.alloc (.cells #[.int .u64 0, .int .u64 0] 38) = w6 := ⟨_, rfl⟩
        have hb6 : Below w5.heap.size w5 w6 := by rw [← hw6]; exact (Below.refl _ _).alloc (Nat.le_refl _) _
        have hBp : Hid (Blk w6 w5.heap.size 38 #[.int .u64 0, .int .u64 0]) := by rw [← hw6]; exact Blk.new w5 _ _
        have m6 := mapAt_on m5 hb6
        have k6 := mapAt_on k5 hb6
        have f6 := off_on f5 (Stays.of_below hb6)
        have hq6 := reads_on hq5 hb6
        have hrL6 := reads_on hrL5 hb6
        have y0 := hBp.out.cell 0
        have y1 := hBp.out.cell 1
        simp only [List.getElem?_toArray, List.getElem?_cons_zero, List.getElem?_cons_succ] at y0 y1
        have heq : ∀ w, (Op.equalIn 10000 38 (.agg #[.int .u64 0, .int .u64 0]) (.agg #[.int .u64 0, .int .u64 0])).run Try.prog w = .ok true w := fun w => by rw [eqP]; simp
        have hw6h := Lib.hid hw6
        clear m5 k5 f5 hq5 hrL5 hb6 hw6
        go_wp2_with fail
        rw [hw6h.out]
        clear hw6h
        go_quiet (fail)
        obtain ⟨wB, hwB⟩ : ∃ wB, w6.drewN nq = wB := ⟨_, rfl⟩
        have hbd : Below w6.heap.size w6 wB := by rw [← hwB]; exact below_drewN (Below.refl _ w6) nq
        have mB := mapAt_on m6 hbd
        have kB := mapAt_on k6 hbd
        have fB := off_on f6 (Stays.of_below hbd)
        have hqB := reads_on hq6 hbd
        have hrL := reads_on hrL6 hbd
        have hbB : Hid (Below wB.heap.size wB wB) := Below.refl _ _
        rw [hwB]
        clear hwB hbd m6 k6 f6 hq6 hrL6 y0 y1 heq hBp 
        obtain ⟨c0, c1⟩ := box2s hBs mB.out.bel
        go_upto_if 91 with fail
        go_cut [13] from 91 to 106 (fun s13 wx => ∃ (J : List Pr) (NJ : Nat), Hid (J.length = NJ) ∧ NJ ≤ 60 ∧ Hid (J ++ L = inR 0 hi S) ∧ Hid (wx.ownsRow wB.heap.size 38 2 s13 NJ (prs J)) ∧ Hid (Below wB.heap.size wB wx))
        case first =>
          by_cases q1 : 0 < lo
          · have e1 := decide_eq_true q1
            have s1 := sL q1
            go_wp2_with fail
            refine (rngM 0 (lo - 1) wB mB (by have := hnSh.out; omega) (by omega)).mono ?_
            rintro e w5 ⟨XA, XC, rfl, hown, hb⟩
            have hrX : Hid (Reads w5 w5.heap.size 2 XA (inR 0 (lo - 1) S).length (prs (inR 0 (lo - 1) S))) := Reads.of_own hown
            have hb5 : Hid (Below wB.heap.size wB w5) := hb
            have hs5 := Lib.hid hb.size
            obtain ⟨nX, hnX⟩ : ∃ nX, (inR 0 (lo - 1) S).length = nX := ⟨_, rfl⟩
            have hnXh := Lib.hid hnX
            have hX60 : nX ≤ 60 := by rw [← hnX]; have h1 : (inR 0 (lo - 1) S).length ≤ S.length := List.length_filter_le _ _; have := hnSh.out; omega
            rw [hnX] at hrX
            try rw [hnX]
            clear hown hb hnX c0 c1
            go_wp2_with (at_builtin; refine wpList_append_any _ rfl (.tmp 103) (.tmp 104) 22 rfl (wB.heap.size) 38 i0 _ 2 16 Try.underlying22 hi0 hz0 hz1 hz2 rfl (by decide) (.slice none 0 0) 0 [] rfl (World.ownsRow_nil _ _ _ _) (w5.heap.size) XA nX XC (prs (inR 0 (lo - 1) S)) rfl hrX.out (prs_one _) (by unfold maxLen; omega) (by omega) hs5.out ?_; intro v6 w6 hown1 hg1 hat1)
            have hown6 : Hid (w6.ownsRow wB.heap.size 38 2 v6 nX (prs (inR 0 (lo - 1) S))) := by have h1 := hown1; rw [Nat.zero_add, List.nil_append] at h1; exact h1
            have hb6 : Hid (Below wB.heap.size wB w6) := hb5.out.grown hg1 hs5.out (fun q hq => by cases hq)
            have hJL : Hid (inR 0 (lo - 1) S ++ L = inR 0 hi S) := by unfold Hid; rw [← hL.out]; exact inR_join (by omega) (by omega) hs.out
            clear hown1 hg1 hat1 hrX hb5 hs5
            go_wp2_with fail
            go_meet
            exact ⟨inR 0 (lo - 1) S, nX, hnXh, hX60, hJL, hown6, hb6⟩
          · have e1 := decide_eq_false q1
            go_wp2_with fail
            go_meet
            exact ⟨[], 0, rfl, by omega, by unfold Hid; rw [← hL.out, show lo = 0 by omega]; rfl, World.ownsRow_nil _ _ _ _, hbB⟩
        case rest =>
          obtain ⟨J, NJ, hNJ, hNJ60, hJL, hownJ, hbJ⟩ := hcut
          obtain ⟨KA, KC, rfl, _⟩ := own_form hownJ.out
          obtain ⟨wJ, rfl⟩ : ∃ wJ : World, wJ = wc := ⟨_, rfl⟩
          have hsJ := Lib.hid hbJ.out.size
          have hrLJ := reads_on hrL hbJ.out
          clear c0 c1
          obtain ⟨c0, c1⟩ := box2s hBs (mapAt_on mB hbJ.out).out.bel
          go_upto_if 111 with (at_builtin; refine wpList_append_any _ rfl (.tmp 106) (.tmp 107) 22 rfl (wB.heap.size) 38 i0 _ 2 16 Try.underlying22 hi0 hz0 hz1 hz2 rfl (by decide) (.slice KA NJ KC) NJ (prs J) rfl hownJ.out (wJ.heap.size) LA nL LC (prs L) rfl hrLJ.out (prs_one _) (by unfold maxLen; omega) (by omega) hsJ.out ?_; intro v7 w7 hown1 hg1 hat1; have hb7 : Hid (Below wB.heap.size wB w7) := hbJ.out.grown hg1 hsJ.out (fun q hq => (hownJ.out.lt q hq).1); obtain ⟨z0, z1⟩ := box2s hBs ((mapAt_on mB hb7.out).out.bel))
          have hown7 : Hid (w7.ownsRow wB.heap.size 38 2 v7 (NJ + nL) (prs (inR 0 hi S))) := by have h1 := hown1; rw [← prs_append, hJL.out] at h1; exact h1
          have hn7 : Hid ((inR 0 hi S).length = NJ + nL) := by unfold Hid; rw [← hJL.out, List.length_append, hNJ.out, hLn.out]
          clear hown1 hg1 hat1 hownJ hbJ hsJ hrLJ c0 c1
          go_cut [13] from 111 to 126 (fun s13 wx => Hid (wx.ownsRow wB.heap.size 38 2 s13 nS (prs S)) ∧ Hid (Below wB.heap.size wB wx))
          case first =>
            by_cases q2 : hi < 18446744073709551615
            · have e2 := decide_eq_true q2
              have s2 := sH q2
              go_wp2_with fail
              refine (rngM (hi + 1) 18446744073709551615 w7 (mapAt_on mB hb7.out) (by have := hnSh.out; omega) (by omega)).mono ?_
              rintro e w8 ⟨YA, YC, rfl, hown, hb⟩
              have hrY : Hid (Reads w8 w8.heap.size 2 YA (inR (hi + 1) 18446744073709551615 S).length (prs (inR (hi + 1) 18446744073709551615 S))) := Reads.of_own hown
              have hb8 := below_on hb7 hb
              have hs8 := Lib.hid hb8.out.size
              have hown8 := Lib.hid (own_below hown7.out hb)
              obtain ⟨nY, hnY⟩ : ∃ nY, (inR (hi + 1) 18446744073709551615 S).length = nY := ⟨_, rfl⟩
              have hnYh := Lib.hid hnY
              have hY60 : nY ≤ 60 := by rw [← hnY]; have h1 : (inR (hi + 1) 18446744073709551615 S).length ≤ S.length := List.length_filter_le _ _; have := hnSh.out; omega
              rw [hnY] at hrY
              try rw [hnY]
              clear hown hb hnY z0 z1 hown7 hb7
              go_wp2_with (at_builtin; refine wpList_append_any _ rfl (.tmp 123) (.tmp 124) 22 rfl (wB.heap.size) 38 i0 _ 2 16 Try.underlying22 hi0 hz0 hz1 hz2 rfl (by decide) v7 (NJ + nL) (prs (inR 0 hi S)) rfl hown8.out (w8.heap.size) YA nY YC (prs (inR (hi + 1) 18446744073709551615 S)) rfl hrY.out (prs_one _) (by unfold maxLen; omega) (by omega) hs8.out ?_; intro v9 w9 hown1 hg1 hat1)
              have hJ : Hid (inR 0 hi S ++ inR (hi + 1) 18446744073709551615 S = S) := by
                unfold Hid
                have h2 := inR_join (a := 0) (b := hi + 1) (c := 18446744073709551615) (by omega) (by omega) hs.out
                rw [show hi + 1 - 1 = hi by omega] at h2
                rw [h2]
                exact inR_all hSwh.out
              have hN9 : NJ + nL + nY = nS := by
                have h1 := congrArg List.length hJ.out
                rw [List.length_append, hn7.out, hnYh.out, hnSh.out] at h1
                exact h1
              have hown9 : Hid (w9.ownsRow wB.heap.size 38 2 v9 nS (prs S)) := by have h1 := hown1; rw [← prs_append, hJ.out, hN9] at h1; exact h1
              have hb9 : Hid (Below wB.heap.size wB w9) := hb8.out.grown hg1 hs8.out (fun q hq => (hown8.out.lt q hq).1)
              clear hown1 hg1 hat1 hown8 hb8 hs8 hrY
              go_wp2_with fail
              go_meet
              exact ⟨hown9, hb9⟩
            · have e2 := decide_eq_false q2
              have hJ : Hid (inR 0 hi S = S) := by unfold Hid; rw [show hi = 18446744073709551615 by omega]; exact inR_all hSwh.out
              have hN9 : NJ + nL = nS := by
                have h1 := hn7.out
                rw [hJ.out, hnSh.out] at h1
                exact h1.symm
              rw [hJ.out, hN9] at hown7
              go_wp2_with fail
              go_meet
              exact ⟨hown7, hb7⟩
          case rest =>
            obtain ⟨hown9, hbJ⟩ := hcut
            obtain ⟨JA, JC, rfl, _⟩ := own_form hown9.out
            obtain ⟨wK, rfl⟩ : ∃ wK : World, wK = wc := ⟨_, rfl⟩
            have hrJ : Hid (Reads wK wK.heap.size 2 JA nS (prs S)) := Reads.of_own hown9.out
            clear hown7 hb7 hown9
            have mJ := mapAt_on mB hbJ.out
            have kJ := mapAt_on kB hbJ.out
            have fJ := off_on fB (Stays.of_below hbJ.out)
            have hqJ := reads_on hqB hbJ.out
            clear mB kB fB hqB hrL hbB hbJ z0 z1 sL sH
            go_wp2_with fail
            go_loopg [18] nS (fun gk iv w' => ∃ i : Nat, i + gk = nS ∧ iv = .int .i64 i ∧ Hid (Below wK.heap.size wK w'))
            case atStart => exact ⟨0, by omega, rfl, Below.refl _ _⟩
            case round =>
              obtain ⟨i, hgi, rfl, hbel⟩ := hrel
              cases gk with
              | zero =>
                obtain rfl : nS = i := by omega
                have m7 := mapAt_on mJ hbel.out
                have k7 := mapAt_on kJ hbel.out
                have f7 := off_on fJ (Stays.of_below hbel.out)
                obtain ⟨c0, c1⟩ := box2s hBs m7.out.bel
                clear hqJ hrJ hbel mJ kJ fJ
                go_wp2_with fail
                refine (delRM lo hi wr m7 (by omega)).mono ?_
                rintro e w8 ⟨hE, v8, hm, hst⟩
                rw [hL.out, hLn.out] at hE
                subst hE
                have m8 := Lib.hid hm
                have k8 := mapAt_off k7 f7 hst hm.bel
                clear hm hst m7 k7 f7 c0 c1
                obtain ⟨c0, c1⟩ := box2s hBs m8.out.bel
                go_wp2_with fail
                refine (rngM lo hi w8 m8 (by have h1 : (outR lo hi S).length ≤ S.length := List.length_filter_le _ _; have := hnSh.out; omega) (by omega)).mono ?_
                rintro e w9 ⟨ZA, ZC, hE, _, hb⟩
                rw [in_out_nil] at hE
                replace hE : e = .returned (.tuple #[.slice ZA 0 ZC, .int .i64 0]) := hE
                subst hE
                have m9 := mapAt_on m8 hb
                have k9 := mapAt_on k8 hb
                clear hb m8 k8 c0 c1
                obtain ⟨nO, hnO⟩ : ∃ nO, (outR lo hi S).length = nO := ⟨_, rfl⟩
                have hio := in_out_len lo hi S
                rw [hL.out, hLn.out, hnO, hnSh.out] at hio
                have hnOh := Lib.hid hnO
                have hwr : IntKind.i64.wrap ((nS : Int) - (nL : Int)) = (nO : Int) := by rw [i64_sm (by omega) (by omega)]; omega
                clear hnO
                go_wp2_with fail
                refine (lenM w9 m9).mono ?_
                rintro e wa ⟨hE, hb⟩
                rw [hnOh.out] at hE
                subst hE
                have ma := mapAt_on m9 hb
                have ka := mapAt_on k9 hb
                clear hb m9 k9
                go_wp2_with fail
                refine (lenM wa ka).mono ?_
                rintro e wb ⟨hE, hb⟩
                rw [hnSh.out] at hE
                subst hE
                have mb := mapAt_on ma hb
                have kb := mapAt_on ka hb
                clear hb ma ka
                go_wp2_with fail
                refine (equalM wb mb kb).mono ?_
                rintro e wd ⟨hE, hb⟩
                have hdd : decide (outR lo hi S = S) = decide (nL = 0) := by
                  by_cases h0 : nL = 0
                  · rw [decide_eq_true h0]
                    have h1 : L = [] := List.eq_nil_of_length_eq_zero (by rw [hLn.out]; exact h0)
                    refine decide_eq_true (List.filter_eq_self.2 fun p hp => ?_)
                    have h2 : inR lo hi S = [] := by rw [hL.out]; exact h1
                    have h3 := List.filter_eq_nil_iff.1 h2 p hp
                    simpa using h3
                  · rw [decide_eq_false h0]
                    refine decide_eq_false fun h => ?_
                    have h1 := congrArg List.length h
                    rw [hnOh.out, hnSh.out] at h1
                    omega
                rw [hdd] at hE
                have hz1 : Hid (nL = 0 ∨ 0 < nL) := by unfold Hid; omega
                have md := mapAt_on mb hb
                clear hb mb kb hdd
                rcases hz1.out with h0 | h0
                · rw [decide_eq_true h0] at hE
                  subst hE
                  have e0 : ((nL : Int) == 0) = true := by simp; omega
                  clear h0
                  go_wp2_with fail
                  refine (known_any _).mono ?_
                  rintro e wz ⟨rfl, hb⟩
                  have hbe := below_on (below_on hb0 md.out.bel) hb
                  clear hb
                  go_wp2_with fail
                  go_ret
                  exact ⟨rfl, hbe.out⟩
                · rw [decide_eq_false (by omega)] at hE
                  subst hE
                  have e0 : ((nL : Int) == 0) = false := by simp; omega
                  clear h0
                  go_wp2_with fail
                  refine (known_any _).mono ?_
                  rintro e wz ⟨rfl, hb⟩
                  have hbe := below_on (below_on hb0 md.out.bel) hb
                  clear hb
                  go_wp2_with fail
                  go_ret
                  exact ⟨rfl, hbe.out⟩
              | succ g3 =>
                obtain ⟨b, o, rfl, hbB⟩ := reads_head hqJ.out (by omega) (by decide)
                obtain ⟨b', o', rfl, hbB'⟩ := reads_head hrJ.out (by omega) (by decide)
                obtain ⟨x, hx, q0, q1⟩ := prs_at (hqJ.out.below hbel.out) (show i < nS by omega)
                obtain ⟨y, hy, r0, r1⟩ := prs_at (hrJ.out.below hbel.out) (show i < nS by omega)
                obtain rfl := Option.some.inj (hx.symm.trans hy)
                obtain ⟨pk, pv⟩ := x
                dsimp only at q0 q1 r0 r1
                have heq : ∀ w, (Op.equalIn 10000 38 (.agg #[.int .u64 pk, .int .u64 pv]) (.agg #[.int .u64 pk, .int .u64 pv])).run Try.prog w = .ok true w := fun w => by rw [eqP]; simp
                have j0 : (0 : Int) ≤ (i : Int) := by omega
                have j1 : (i : Int) < (nS : Int) := by omega
                clear hx hy
                go_wp2_with fail
                go_quiet (fail)
                go_wp2_with fail
                go_roundg g3
                case measure => omega
                case rel => exact ⟨i + 1, by omega, by go_num, below_drewN hbel _⟩
theorem ranges_law (A : Option Addr) (n c : Nat) (l : List Pr) (lo hi : Int) (w : World) (hI : IsPairs w A n c l) (hz : n * 16 ≤ 140737488351232) (wlo : (Lit.int .u64 lo).wf = true) (whi : (Lit.int .u64 hi).wf = true) :
    Calls Try.prog 6 #[.slice A n c, .agg #[.int .u64 lo, .int .u64 hi]] w fun e w' => e = .returned (.bool true) ∧ Below w.heap.size w w' :=
  ranges_core A n c l lo hi w hI.reads hz (fun p hp => (hI.wf p hp).1) wlo whi
end Go.Proofs.Ytfghkmhabpagkaa
