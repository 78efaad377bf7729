/- The law PlanMaps, walked (printed by gen_lawmaps.py). -/
import Derived.Test.YtlaocajjenfgpaaOne
import Derived.Test.YtlaocajjenfgpaaONew
import Derived.Test.YtlaocajjenfgpaaMapsP
namespace Go.Proofs.Ytlaocajjenfgpaa
open Go Go.RowKit
set_option linter.unusedVariables false
set_option linter.unusedSimpArgs false

/-- An owned row that was made after a map is not turned by the map's doings. -/
theorem own_but {w w' : World} {base e size n g : Nat} {u v : Value} {xs : List Value} (h : w.ownsRow base e size u n xs) (hb : But w w' g v) (hg : g < base) (hv : ∀ q, v.ownBlock = some q → q < base) : w'.ownsRow base e size u n xs := by
  refine ⟨h.1, ?_⟩
  rcases h.2 with ⟨e, h0⟩ | ⟨g', cap, cur, hu, hbb, hgg, hr⟩
  · exact .inl ⟨e, h0⟩
  · exact .inr ⟨g', cap, cur, hu, hbb, (hb.block g' (Blk.lt hgg) (by omega) (fun e => by have := hv g' e; omega)).trans hgg, hr⟩
theorem clone_reads {w' : World} {A : Option Addr} {n c : Nat} {xs : List Value} {base : Nat} (h : w'.ownsRow base 47 2 (.slice A n c) n xs) : Hid (Reads w' w'.heap.size 2 A n xs) := Reads.of_own h

/-- The ways of 'was && lo <= k && k <= hi'. -/
theorem from_ways (lo hi : Int) (c : Chg) : (c.was = false ∧ fromC lo hi c = false) ∨ (c.was = true ∧ decide (lo ≤ c.key) = false ∧ fromC lo hi c = false) ∨ (c.was = true ∧ decide (lo ≤ c.key) = true ∧ decide (c.key ≤ hi) = false ∧ fromC lo hi c = false) ∨
    (c.was = true ∧ decide (lo ≤ c.key) = true ∧ decide (c.key ≤ hi) = true ∧ fromC lo hi c = true) := by
  unfold fromC
  rcases c.was with _ | _ <;> rcases decide (lo ≤ c.key) with _ | _ <;> rcases decide (c.key ≤ hi) with _ | _ <;> simp
theorem to_ways (lo hi by_ : Int) (ps : List Pr) (k : Int) : ∃ h b1 b2 b3 : Bool, (look Pr.key ps (IntKind.u64.wrap (k - by_))).isSome = h ∧ decide (by_ ≤ k) = b1 ∧ decide (lo ≤ IntKind.u64.wrap (k - by_)) = b2 ∧ decide (IntKind.u64.wrap (k - by_) ≤ hi) = b3 ∧ toK lo hi by_ ps k = (h && b1 && b2 && b3) := ⟨_, _, _, _, rfl, rfl, rfl, rfl, rfl⟩

set_option maxRecDepth 100000 in
set_option maxHeartbeats 8000000 in
theorem maps_law (a0 : Option Addr) (len0 cap0 : Nat) (ps : List Pr) (lo hi by_ : Int) (w : World) (h0 : IsPairs w a0 len0 cap0 ps)
    (wlo : (Lit.int .u64 lo).wf = true) (whi : (Lit.int .u64 hi).wf = true) (wby : (Lit.int .u64 by_).wf = true) :
    Calls Try.prog 10 #[.slice a0 len0 cap0, .agg #[.int .u64 lo, .int .u64 hi], .int .u64 by_] w fun e w' => e = .returned (.bool true) ∧ Below w.heap.size w w' := by
  have hr : Hid (Reads w w.heap.size 2 a0 len0 (prs ps)) := h0.reads
  have hm0 : len0 ≤ cap0 ∧ cap0 ≤ 9223372036854775807 := by have h1 := h0.le; have h2 := h0.cap; unfold maxLen at h2; omega
  obtain ⟨hm0, hm0'⟩ := hm0
  have hl0 := Lib.hid (prs_n hr.out)
  have hwf := Lib.hid h0.wf
  have hf := Lib.hid (And.intro wlo (And.intro whi wby))
  have hstart : Hid (∀ w', Below (w.alloc (.cells #[.int .u64 lo, .int .u64 hi] 25)).heap.size (w.alloc (.cells #[.int .u64 lo, .int .u64 hi] 25)) w' → Below w.heap.size w w') := Lib.hid (fun w' h => ((Below.refl _ _).alloc (Nat.le_refl _) _).trans (h.mono (by simp)))
  have hr0 : Hid (Reads (w.alloc (.cells #[.int .u64 lo, .int .u64 hi] 25)) (w.alloc (.cells #[.int .u64 lo, .int .u64 hi] 25)).heap.size 2 a0 len0 (prs ps)) := (hr.out.alloc (Nat.le_refl _) _).more (by simp)
  have bx0 : Hid (Blk (w.alloc (.cells #[.int .u64 lo, .int .u64 hi] 25)) w.heap.size 25 #[.int .u64 lo, .int .u64 hi]) := Blk.new w _ _
  have hbs : Hid (Below (w.alloc (.cells #[.int .u64 lo, .int .u64 hi] 25)).heap.size (w.alloc (.cells #[.int .u64 lo, .int .u64 hi] 25)) (w.alloc (.cells #[.int .u64 lo, .int .u64 hi] 25))) := Below.refl _ _
  have hsz0 : Hid (w.heap.size < (w.alloc (.cells #[.int .u64 lo, .int .u64 hi] 25)).heap.size) := Lib.hid (by simp)
  clear h0 wlo whi wby
  by_cases hbig : 60 < len0
  · have hd : decide ((60 : Int) < (len0 : Int)) = true := by simp; omega
    go_enter Try.func10, Try.ntmps10
    go_wp2_with fail
    refine (known_any _).mono ?_
    rintro e wk ⟨rfl, hbk⟩
    have hbk := Lib.hid (hstart.out _ hbk)
    go_wp2_with fail
    go_ret
    exact ⟨rfl, hbk.out⟩
  · have hd : decide ((60 : Int) < (len0 : Int)) = false := by simp; omega
    go_enter Try.func10, Try.ntmps10
    go_wp2_with fail
    refine (ascL_any ps a0 len0 cap0 _ hr0 (by omega)).mono ?_
    rintro e w1 ⟨g1, g2, hb⟩
    have hb1 := below_on hbs hb
    have pr1 := reads_on hr0 hb
    have bx1 := Lib.hid (bx0.out.below hb bx0.out.lt)
    clear hb
    by_cases hp : Asc ps
    · obtain rfl := g1 hp
      have hP := Lib.hid hp
      clear g1 g2 hp
      have M0 := bx1.out.cell 0
      have M1 := bx1.out.cell 1
      simp at M0 M1
      obtain ⟨M, hM⟩ : ∃ M : Int, IntKind.u64.wrap (18446744073709551615 - hi) = M := ⟨_, rfl⟩
      have hMv : Hid (M = 18446744073709551615 - hi) := Lib.hid (by have := bounds_u64 hf.out.2.1; rw [← hM, IntWalk.u64_in _ (by omega)])
      by_cases h1 : hi < lo
      · have hd1 : decide (hi < lo) = true := decide_eq_true h1
        go_wp2_with fail
        refine (known_any _).mono ?_
        rintro e wk ⟨rfl, hbk⟩
        have hbk := Lib.hid (hstart.out _ (below_on hb1 hbk).out)
        go_wp2_with fail
        go_ret
        exact ⟨rfl, hbk.out⟩
      · have hd1 : decide (hi < lo) = false := decide_eq_false h1
        by_cases h2 : by_ = 0
        · have hd2 : (by_ == 0) = true := by simpa using h2
          go_wp2_with fail
          refine (known_any _).mono ?_
          rintro e wk ⟨rfl, hbk⟩
          have hbk := Lib.hid (hstart.out _ (below_on hb1 hbk).out)
          go_wp2_with fail
          go_ret
          exact ⟨rfl, hbk.out⟩
        · have hd2 : (by_ == 0) = false := by simpa using h2
          by_cases h3 : M < by_
          · have hd3 : decide (M < by_) = true := decide_eq_true h3
            go_wp2_with fail
            refine (known_any _).mono ?_
            rintro e wk ⟨rfl, hbk⟩
            have hbk := Lib.hid (hstart.out _ (below_on hb1 hbk).out)
            go_wp2_with fail
            go_ret
            exact ⟨rfl, hbk.out⟩
          · have hd3 : decide (M < by_) = false := decide_eq_false h3
            have hH := Lib.hid (And.intro (show lo ≤ hi by omega) (And.intro h2 (show ¬ 18446744073709551615 - hi < by_ by have := hMv.out; omega)))
            clear h1 h2 h3
            go_wp2_with fail
            refine (newO_any ps a0 len0 cap0 w1 pr1 (by omega)).mono ?_
            rintro e w2 ⟨hb, hN⟩
            obtain ⟨g, v, rfl, ho⟩ : ∃ g v, e = .returned (.tuple #[.pointer (some ⟨g, 0, none⟩), .int .i64 0]) ∧ IsO w2 w1.heap.size g v ps := by
              rcases hN with ⟨_, g, v, rfl, ho⟩ | ⟨hno, _⟩
              · exact ⟨g, v, rfl, by rw [← puts_sorted hP.out]; exact ho⟩
              · exact absurd (noDup_sorted hP.out _) hno
            have om2 := Lib.hid ho
            have hb2 := below_on hb1 hb
            have hB1 := Lib.hid hb1.out.size
            clear ho hN hb hb1 pr1 bx1 M0 M1
            go_wp2_with fail
            refine (copyO_any ps g w2 (Lib.hid om2.out.q) (Lib.hid om2.out.srt) om2.out.len).mono ?_
            rintro e w3 ⟨g2, v2, rfl, hc, hb⟩
            have oc3 := Lib.hid hc
            have om3 := Lib.hid (om2.out.below hb)
            have hb3 := below_on hb2 hb
            have hsep := Lib.hid (And.intro om2.out.blk.lt (And.intro (fun q hq => (om2.out.own.lt q hq).2 : ∀ q, v.ownBlock = some q → q < w2.heap.size) (And.intro hc.lo hc.row_lo)))
            have hB2 := Lib.hid hb2.out.size
            clear hc hb hb2 om2
            go_wp2_with fail
            refine (pairsO_any ps g w3 (Lib.hid om3.out.q)).mono ?_
            rintro e w4 ⟨A4, c4, rfl, hown, hb⟩
            have st4 := clone_reads hown
            have om4 := Lib.hid (om3.out.below hb)
            have oc4 := Lib.hid (oc3.out.below hb)
            have hb4 := below_on hb3 hb
            clear hown hb hb3 om3 oc3
            go_wp2_with fail
            refine (sameL ps A4 a0 ps.length len0 c4 cap0 w4 st4 (reads_on hr0 hb4.out) (by have := hl0.out; omega)).mono ?_
            rintro e w5 ⟨rfl, hb⟩
            have om5 := Lib.hid (om4.out.below hb)
            have oc5 := Lib.hid (oc4.out.below hb)
            have hb5 := below_on hb4 hb
            have bx5 := Lib.hid (bx0.out.below hb5.out bx0.out.lt)
            have M0 := bx5.out.cell 0
            have M1 := bx5.out.cell 1
            simp at M0 M1
            clear hb hb4 om4 oc4 st4
            go_wp2_with fail
            refine (moveO_ok ps w1.heap.size g v lo hi by_ w5 om5 (by have := hl0.out; omega) hH.out.1 hH.out.2.1 (by have := hH.out.2.2; omega) (fun p hp => (hwf.out p hp).1) hf.out.2.1 hf.out.2.2).mono ?_
            rintro e w6 ⟨rfl, v', hom, hbut, hsn⟩
            have om6 := Lib.hid hom
            have hb6 := Lib.hid (hbut.below hb5.out hb5.out.size (Nat.le_trans hB1.out om5.out.lo) (fun q hq => Nat.le_trans hB1.out (om5.out.row_lo q hq)))
            have oc6 : Hid (IsO w6 w2.heap.size g2 v2 ps) := by
              obtain ⟨s1, s2, s3, s4⟩ := hsep.out
              refine Lib.hid (oc5.out.other hbut (by omega) (fun e => ?_) (fun q hq => ⟨?_, fun e => ?_⟩))
              · have := s2 g2 e
                omega
              · have := s4 q hq
                omega
              · have h1 := s2 q e
                have h2 := s4 q hq
                omega
            have bx6 := Lib.hid (bx0.out.below hb6.out bx0.out.lt)
            have M0 := bx6.out.cell 0
            have M1 := bx6.out.cell 1
            simp at M0 M1
            obtain ⟨I, hI⟩ : ∃ I, (inR lo hi ps).length = I := ⟨_, rfl⟩
            rw [hI]
            have hI := Lib.hid hI
            clear hom hbut hsn hb5 om5 oc5 bx5
            go_wp2_with fail
            refine (move_any ps a0 len0 cap0 lo hi by_ w6 (reads_on hr0 hb6.out) (by omega) hf.out.1 hf.out.2.1 hf.out.2.2).mono ?_
            rintro e w7 ⟨Al, cl, rfl, hown, hb⟩
            rw [outM_ok hP.out hH.out.1 hH.out.2.1 (by have := hH.out.2.2; omega)] at hown ⊢
            dsimp only at hown ⊢
            have hplan := (mv_plan (mv_spec lo hi ((inR lo hi ps).map (shP by_)) ps (srt_sh by_ (srt_in hP.out)) hP.out)).1
            have happ := maps_app (lo := lo) (hi := hi) (by_ := by_) hP.out
            have hto := fun c hc => maps_to (lo := lo) (hi := hi) (by_ := by_) hP.out (fun p hp => (hwf.out p hp).1) (bounds_u64 hf.out.1).1 (bounds_u64 hf.out.2.1).2 (bounds_u64 hf.out.2.2).1 (by have := hH.out.2.2; omega) (c := c) hc
            have hso := fun c hc => maps_some (lo := lo) (hi := hi) (by_ := by_) hP.out (c := c) hc
            have hcn := maps_count (lo := lo) (hi := hi) (by_ := by_) hP.out
            have hrl : (mv lo hi ((inR lo hi ps).map (shP by_)) ps).length ≤ 100000 := by have h1 := mv_len lo hi ((inR lo hi ps).map (shP by_)) ps; have h2 := inR_le lo hi ps; rw [List.length_map] at h1; have := hl0.out; omega
            obtain ⟨r, hrr⟩ : ∃ r, mv lo hi ((inR lo hi ps).map (shP by_)) ps = r := ⟨_, rfl⟩
            rw [hrr] at hplan happ hto hso hcn hrl hown ⊢
            have hR := Lib.hid (And.intro hplan (And.intro happ (And.intro hto (And.intro hso hcn))))
            obtain ⟨nr, hnr⟩ : ∃ nr, r.length = nr := ⟨_, rfl⟩
            rw [hnr] at hrl hown ⊢
            have hnr := Lib.hid hnr
            obtain ⟨ra7, hcl, hcl'⟩ := own_reads hown
            have om7 := Lib.hid (om6.out.below hb)
            have oc7 := Lib.hid (oc6.out.below hb)
            have hb7 := below_on hb6 hb
            clear hown hb hb6 om6 oc6 bx6 M0 M1 hrr hplan happ hto hso hcn
            go_wp2_with fail
            refine (check_any r Al nr cl w7 ra7 (by omega)).mono ?_
            rintro e w8 ⟨k1, _, hb⟩
            obtain rfl := k1 hR.out.1
            have om8 := Lib.hid (om7.out.below hb)
            have oc8 := Lib.hid (oc7.out.below hb)
            have ra8 := reads_on ra7 hb
            have hb8 := below_on hb7 hb
            clear k1 hb hb7 om7 oc7 ra7
            go_wp2_with fail
            refine (apply_any ps r a0 Al len0 nr cap0 cl w8 (reads_on hr0 hb8.out) ra8 (by omega) (by omega) hm0 hm0').mono ?_
            rintro e w9 ⟨_, _, k3, hb⟩
            obtain ⟨Aq, cq, rfl, hown⟩ := k3 ⟨hP.out, hR.out.1⟩ _ hR.out.2.1
            obtain ⟨q9, hcq, hcq'⟩ := own_reads hown
            have om9 := Lib.hid (om8.out.below hb)
            have oc9 := Lib.hid (oc8.out.below hb)
            have ra9 := reads_on ra8 hb
            have hb9 := below_on hb8 hb
            have hml := moved_len lo hi by_ ps
            obtain ⟨mq, hmq⟩ : ∃ mq, moved lo hi by_ ps = mq := ⟨_, rfl⟩
            rw [hmq] at om9 q9 hml ⊢
            clear k3 hb hb8 om8 oc8 ra8 hown hmq hcq hcq'
            go_wp2_with fail
            refine (pairsO_any mq g w9 (Lib.hid om9.out.q)).mono ?_
            rintro e w10 ⟨A10, c10, rfl, hown, hb⟩
            have st10 := clone_reads hown
            have q10 := reads_on q9 hb
            have oc10 := Lib.hid (oc9.out.below hb)
            have ra10 := reads_on ra9 hb
            have hb10 := below_on hb9 hb
            clear hown hb hb9 om9 oc9 ra9 q9
            go_wp2_with fail
            refine (sameL mq Aq A10 mq.length mq.length cq c10 w10 q10 st10 (by have := hl0.out; omega)).mono ?_
            rintro e w11 ⟨rfl, hb⟩
            have oc11 := Lib.hid (oc10.out.below hb)
            have ra11 := reads_on ra10 hb
            have hb11 := below_on hb10 hb
            clear hb hb10 oc10 ra10 q10 st10 hml
            go_wp2_with fail
            go_loopw [14, 15] (fun q i wr => ∃ k : Nat, k ≤ nr ∧ i = .int .i64 k ∧ q = .int .i64 ((r.take k).filter (fromC lo hi)).length ∧ Hid (Below w11.heap.size w11 wr)) (fun _ i _ => nr - (intOf i).toNat)
            case atStart => exact ⟨0, by omega, rfl, rfl, Below.refl _ _⟩
            case round =>
              obtain ⟨k, hk, rfl, rfl, hbel⟩ := hrel
              have ocr := Lib.hid (oc11.out.below hbel.out)
              have rar := reads_on ra11 hbel.out
              have hbr := below_on hb11 hbel.out
              have bxr := Lib.hid (bx0.out.below hbr.out bx0.out.lt)
              have M0 := bxr.out.cell 0
              have M1 := bxr.out.cell 1
              simp at M0 M1
              have j0 : (0 : Int) ≤ (k : Int) := by omega
              by_cases hlt : k < nr
              · obtain ⟨b, o, rfl, hbB⟩ := reads_head rar.out (by omega) (by decide)
                obtain ⟨c, hx, p0, p1, p2, p3, p4⟩ := chs_at rar.out hlt
                have hcm : c ∈ r := List.mem_of_getElem? hx
                have hT := hR.out.2.2.1 c hcm
                have hS := hR.out.2.2.2.1 c hcm
                have hfk : ((r.take (k + 1)).filter (fromC lo hi)).length = ((r.take k).filter (fromC lo hi)).length + (if fromC lo hi c = true then 1 else 0) := by
                  rw [List.take_add_one, hx, List.filter_append, List.length_append]
                  congr 1
                  by_cases h : fromC lo hi c = true <;> simp [h]
                have hfl : ((r.take k).filter (fromC lo hi)).length ≤ k := Nat.le_trans (List.length_filter_le _ _) (List.length_take_le _ _)
                have hfw := from_ways lo hi c
                obtain ⟨h, b1, b2, b3, e0, e1, e2, e3, e4⟩ := to_ways lo hi by_ ps c.key
                have hget := (getO_any ps g2 (IntKind.u64.wrap (c.key - by_)) wr (Lib.hid ocr.out.q) (Lib.hid ocr.out.srt))
                obtain ⟨vo, hvo⟩ : ∃ vo, valO (look Pr.key ps (IntKind.u64.wrap (c.key - by_))) = vo := ⟨_, rfl⟩
                unfold GetO at hget
                rw [hvo, e0] at hget
                obtain ⟨K, hK⟩ : ∃ K : Int, IntKind.u64.wrap (c.key - by_) = K := ⟨_, rfl⟩
                rw [hK] at hget e2 e3
                rw [e4] at hT
                obtain ⟨mv0, hmv0⟩ : ∃ m, ((r.take k).filter (fromC lo hi)).length = m := ⟨_, rfl⟩
                rw [hmv0] at hfk hfl ⊢
                have hbw : b < wr.heap.size := hbB
                obtain ⟨ck, cw, co, ci, cn⟩ := c
                dsimp only at p0 p1 p2 p3 p4 hT e1 hK hfw
                obtain ⟨rfl, _⟩ := hT
                have hS := Lib.hid hS
                have hfk := Lib.hid hfk
                have j1 : (k : Int) < (nr : Int) := by omega
                have hbw3 : (⟨b, o + k * 5 + 3, none⟩ : Addr).block < wr.heap.size := hbB
                have hsw0 : (⟨w.heap.size, 0, none⟩ : Addr).block < wr.heap.size := bxr.out.lt
                have hsw1 : (⟨w.heap.size, 1, none⟩ : Addr).block < wr.heap.size := bxr.out.lt
                clear hx hcm hvo e0 e4 hmv0
                have hgo : Hid (∀ w', Below wr.heap.size wr w' → Below w11.heap.size w11 w') := Lib.hid (fun w' h => hbel.out.trans (h.mono hbel.out.size))
                rcases hfw with ⟨rfl, f4⟩ | ⟨rfl, f2, f4⟩ | ⟨rfl, f2, f3, f4⟩ | ⟨rfl, f2, f3, f4⟩
                all_goals
                  rw [f4] at hS hfk
                  rcases h with _ | _
                  · first
                    | (exfalso; rcases hS.out with h | h <;> simp at h; done)
                    | (simp only [Bool.false_and, Bool.true_and, Bool.and_false, Bool.and_true] at p3
                       go_wp2_with fail
                       refine hget.mono ?_
                       rintro e w12 ⟨rfl, hb⟩
                       have n3 := (hb.cell hbw3).trans p3
                       have N0 := (hb.cell hsw0).trans M0
                       have N1 := (hb.cell hsw1).trans M1
                       have hb := Lib.hid (hgo.out _ hb)
                       go_wp2_with fail
                       go_roundw
                       case rel => exact ⟨k + 1, by omega, by go_num, by first | (rw [hfk.out]; simp; done) | (rw [hfk.out]; simp only [Bool.and_self, Bool.and_true, Bool.true_and, Bool.and_false, Bool.false_and] at f4 ⊢; simp [f4]; done) | (rw [hfk, f4]; simp; done) | (rw [hfk]; simp [f4]; done), hb⟩
                       case measure => simp [intOf]; omega)
                  · rcases b1 with _ | _
                    · first
                      | (exfalso; rcases hS.out with h | h <;> simp at h; done)
                      | (simp only [Bool.false_and, Bool.true_and, Bool.and_false, Bool.and_true] at p3
                         go_wp2_with fail
                         refine hget.mono ?_
                         rintro e w12 ⟨rfl, hb⟩
                         have n3 := (hb.cell hbw3).trans p3
                         have N0 := (hb.cell hsw0).trans M0
                         have N1 := (hb.cell hsw1).trans M1
                         have hb := Lib.hid (hgo.out _ hb)
                         go_wp2_with fail
                         go_roundw
                         case rel => exact ⟨k + 1, by omega, by go_num, by first | (rw [hfk.out]; simp; done) | (rw [hfk.out]; simp only [Bool.and_self, Bool.and_true, Bool.true_and, Bool.and_false, Bool.false_and] at f4 ⊢; simp [f4]; done) | (rw [hfk, f4]; simp; done) | (rw [hfk]; simp [f4]; done), hb⟩
                         case measure => simp [intOf]; omega)
                    · rcases b2 with _ | _
                      · first
                        | (exfalso; rcases hS.out with h | h <;> simp at h; done)
                        | (simp only [Bool.false_and, Bool.true_and, Bool.and_false, Bool.and_true] at p3
                           go_wp2_with fail
                           refine hget.mono ?_
                           rintro e w12 ⟨rfl, hb⟩
                           have n3 := (hb.cell hbw3).trans p3
                           have N0 := (hb.cell hsw0).trans M0
                           have N1 := (hb.cell hsw1).trans M1
                           have hb := Lib.hid (hgo.out _ hb)
                           go_wp2_with fail
                           go_roundw
                           case rel => exact ⟨k + 1, by omega, by go_num, by first | (rw [hfk.out]; simp; done) | (rw [hfk.out]; simp only [Bool.and_self, Bool.and_true, Bool.true_and, Bool.and_false, Bool.false_and] at f4 ⊢; simp [f4]; done) | (rw [hfk, f4]; simp; done) | (rw [hfk]; simp [f4]; done), hb⟩
                           case measure => simp [intOf]; omega)
                      · rcases b3 with _ | _
                        all_goals first
                          | (exfalso; rcases hS.out with h | h <;> simp at h; done)
                          | (simp only [Bool.false_and, Bool.true_and, Bool.and_false, Bool.and_true] at p3
                             go_wp2_with fail
                             refine hget.mono ?_
                             rintro e w12 ⟨rfl, hb⟩
                             have n3 := (hb.cell hbw3).trans p3
                             have N0 := (hb.cell hsw0).trans M0
                             have N1 := (hb.cell hsw1).trans M1
                             have hb := Lib.hid (hgo.out _ hb)
                             go_wp2_with fail
                             go_roundw
                             case rel => exact ⟨k + 1, by omega, by go_num, by first | (rw [hfk.out]; simp; done) | (rw [hfk.out]; simp only [Bool.and_self, Bool.and_true, Bool.true_and, Bool.and_false, Bool.false_and] at f4 ⊢; simp [f4]; done) | (rw [hfk, f4]; simp; done) | (rw [hfk]; simp [f4]; done), hb⟩
                             case measure => simp [intOf]; omega)
              · obtain rfl : k = nr := by omega
                have hfin : ((r.take k).filter (fromC lo hi)).length = I := by
                  rw [List.take_of_length_le (by rw [hnr.out]; exact Nat.le_refl _), hR.out.2.2.2.2, hI.out]
                rw [hfin]
                clear hfin
                go_wp2_with fail
                refine (delete_any ps a0 len0 cap0 lo hi wr (reads_on hr0 hbr.out) (by omega)).mono ?_
                rintro e w12 ⟨_, _, k3, hb⟩
                obtain ⟨Ad, cd, rfl, hown⟩ := k3 hP.out hH.out.1
                have hdl := maps_del (lo := lo) (hi := hi) hP.out
                have hdn : (dels (inR lo hi ps)).length = (inR lo hi ps).length := List.length_map _
                have hsd := Lib.hid (And.intro ocr.out.blk.lt (fun q hq => (ocr.out.own.lt q hq).2 : ∀ q, v2.ownBlock = some q → q < wr.heap.size))
                have ocd := Lib.hid (ocr.out.below hb)
                have hbd := below_on hbr hb
                have bxd := Lib.hid (bx0.out.below hbd.out bx0.out.lt)
                have M0 := bxd.out.cell 0
                have M1 := bxd.out.cell 1
                simp at M0 M1
                rw [hI.out] at hown ⊢
                have hIl : I ≤ 100000 := by have := inR_le lo hi ps; have := hl0.out; have := hI.out; omega
                have hown := Lib.hid hown
                have hdl := Lib.hid hdl
                clear k3 hb hbel ocr rar bxr hdn
                go_wp2_with fail
                refine (delRO_ok ps w2.heap.size g2 v2 lo hi w12 ocd hH.out.1).mono ?_
                rintro e w13 ⟨rfl, v3, hoc, hbut, hsn⟩
                rw [hI.out]
                have hb13 := Lib.hid (hbut.below hbd.out hbd.out.size (Nat.le_trans hB2.out ocd.out.lo) (fun q hq => Nat.le_trans hB2.out (ocd.out.row_lo q hq)))
                have oc13 := Lib.hid hoc
                obtain ⟨rd13, hcd, hcd'⟩ := own_reads (own_but hown.out hbut hsd.out.1 hsd.out.2)
                clear hoc hbut hsn hbd ocd hown hsd
                go_wp2_with fail
                refine (apply_any ps (dels (inR lo hi ps)) a0 Ad len0 I cap0 cd w13 (reads_on hr0 hb13.out) rd13 (by omega) (by omega) hm0 hm0').mono ?_
                rintro e w14 ⟨_, _, k3, hb⟩
                obtain ⟨Ag, cg, rfl, hown⟩ := k3 ⟨hP.out, hdl.out.1⟩ _ hdl.out.2
                obtain ⟨q14, hcg, hcg'⟩ := own_reads hown
                have oc14 := Lib.hid (oc13.out.below hb)
                have hb14 := below_on hb13 hb
                have hol : (outR lo hi ps).length ≤ ps.length := List.length_filter_le _ _
                clear k3 hb hb13 oc13 hown rd13
                go_wp2_with fail
                refine (pairsO_any (outR lo hi ps) g2 w14 (Lib.hid oc14.out.q)).mono ?_
                rintro e w15 ⟨A15, c15, rfl, hown, hb⟩
                have st15 := clone_reads hown
                have q15 := reads_on q14 hb
                have hb15 := below_on hb14 hb
                clear hown hb hb14 oc14 q14
                go_wp2_with fail
                refine (sameL (outR lo hi ps) Ag A15 (outR lo hi ps).length (outR lo hi ps).length cg c15 w15 q15 st15 (by have := hl0.out; omega)).mono ?_
                rintro e w16 ⟨rfl, hb⟩
                have hb16 := below_on hb15 hb
                clear hb hb15 q15 st15
                go_wp2_with fail
                refine (known_any _).mono ?_
                rintro e wk ⟨rfl, hbk⟩
                have hbk := Lib.hid (hstart.out _ (below_on hb16 hbk).out)
                go_wp2_with fail
                go_ret
                exact ⟨rfl, hbk.out⟩
    · obtain rfl := g2 hp
      clear g1 g2 hp
      go_wp2_with fail
      refine (known_any _).mono ?_
      rintro e wk ⟨rfl, hbk⟩
      have hbk := Lib.hid (hstart.out _ (below_on hb1 hbk).out)
      go_wp2_with fail
      go_ret
      exact ⟨rfl, hbk.out⟩
end Go.Proofs.Ytlaocajjenfgpaa
