/- The law DrawCounts, walked (printed by gen_cnt.py). -/
import Derived.Test.YtmokfjlkfhopnaaDoorLawTal
namespace Go.Proofs.YtmokfjlkfhopnaaDoor
open Go Go.RowKit Go.ChangeShapes
set_option linter.unusedVariables false

/-- The sum of the first k tallies. -/
def sumT (l : List Int) : Nat → Nat
  | 0 => 0
  | k + 1 => sumT l k + tal l k
theorem sumT_six (l : List Int) (h : okH l = true) : sumT l 6 = l.length := by
  have := tal_sum l h
  unfold sumT sumT sumT sumT sumT sumT sumT
  omega
theorem sumT_le (l : List Int) : ∀ k, sumT l k ≤ k * l.length
  | 0 => Nat.zero_le _
  | k + 1 => by
    have h1 := sumT_le l k
    have h2 := tal_le l k
    unfold sumT
    rw [Nat.add_mul, Nat.one_mul]
    omega
theorem okH_append {a b : List Int} (ha : okH a = true) (hb : okH b = true) : okH (b ++ a) = true := by
  unfold okH at *
  rw [List.all_append, ha, hb]
  rfl
theorem ints_one (l : List Int) : ∀ u ∈ ints l, u.oneCell' = true := by
  intro u hu
  obtain ⟨_, _, rfl⟩ := List.mem_map.1 hu
  rfl

set_option maxHeartbeats 2000000 in
theorem counts_law (a0 : Option Addr) (len0 cap0 : Nat) (l0 : List Int) (a1 : Option Addr) (len1 cap1 : Nat) (l1 : List Int) (w : World) (hT : Hid (Tab w)) (w0 : IsInts w a0 len0 cap0 l0) (w1 : IsInts w a1 len1 cap1 l1) :
    Calls Tryd.prog 6 #[.slice a0 len0 cap0, .slice a1 len1 cap1] w fun e w' => e = .returned (.bool true) ∧ Below w.heap.size w w' := by
  have hr0 : Hid (Reads w w.heap.size 1 a0 len0 (ints l0)) := w0.reads
  have hr1 : Hid (Reads w w.heap.size 1 a1 len1 (ints l1)) := w1.reads
  have hl0 : Hid (l0.length = len0) := w0.len
  have hl1 : Hid (l1.length = len1) := w1.len
  have hm0 : len0 ≤ 9223372036854775807 := by have h1 := w0.le; have h2 := w0.cap; unfold maxLen at h2; omega
  have hm1 : len1 ≤ 9223372036854775807 := by have h1 := w1.le; have h2 := w1.cap; unfold maxLen at h2; omega
  clear w0 w1
  obtain ⟨i0, hi0, hz0, hz1, hz2⟩ := info_parts infoInt
  rcases h0 : okH l0 with _ | _ <;> rcases h1 : okH l1 with _ | _
  · have ho0 := Lib.hid h0
    have ho1 := Lib.hid h1
    clear h0 h1
    go_enter Tryd.func6, Tryd.ntmps6
    go_wp2_with fail
    refine (tally_no l0 ho0.out _ _ _ _ hr0 (by omega)).mono ?_
    rintro e w1 ⟨rfl, hb⟩
    have hb1 := Lib.hid hb
    clear hb
    go_wp2_with fail
    refine (tally_no l1 ho1.out _ _ _ _ ?_ (by omega)).mono ?_
    · exact ((hr1.out.below hb1.out).alloc hb1.out.size _).more (by have := hb1.out.size; simp; omega)
    rintro e w2 ⟨rfl, hb⟩
    have hb2 := Lib.hid hb
    have hz : w1.heap.size < w2.heap.size := by have := hb2.out.size; simp at this; omega
    have hbel2 : Hid (Below w.heap.size w w2) := (hb1.out.alloc hb1.out.size _).trans (hb2.out.mono (by have := hb1.out.size; simp; omega))
    clear hb
    go_wp2_with fail
    all_goals
      refine (known_any _ ?_).mono ?_
      · exact tab_below hT (hbel2.out.alloc hbel2.out.size _) (tab_lt hT)
      rintro e w3 ⟨rfl, hb⟩
      have hb3 := Lib.hid hb
      clear hb
      go_wp2_with fail
      go_ret
      exact ⟨rfl, (hbel2.out.alloc hbel2.out.size _).trans (hb3.out.mono (by have := hbel2.out.size; simp; omega))⟩
  · have ho0 := Lib.hid h0
    have ho1 := Lib.hid h1
    clear h0 h1
    go_enter Tryd.func6, Tryd.ntmps6
    go_wp2_with fail
    refine (tally_no l0 ho0.out _ _ _ _ hr0 (by omega)).mono ?_
    rintro e w1 ⟨rfl, hb⟩
    have hb1 := Lib.hid hb
    clear hb
    go_wp2_with fail
    refine (tally_ok l1 _ _ _ _ _ _ rfl ho1.out _ _ _ _ ?_ (by omega)).mono ?_
    · exact ((hr1.out.below hb1.out).alloc hb1.out.size _).more (by have := hb1.out.size; simp; omega)
    rintro e w2 ⟨rfl, hb⟩
    have hb2 := Lib.hid hb
    have hz : w1.heap.size < w2.heap.size := by have := hb2.out.size; simp at this; omega
    have hbel2 : Hid (Below w.heap.size w w2) := (hb1.out.alloc hb1.out.size _).trans (hb2.out.mono (by have := hb1.out.size; simp; omega))
    clear hb
    go_wp2_with fail
    all_goals
      refine (known_any _ ?_).mono ?_
      · exact tab_below hT (hbel2.out.alloc hbel2.out.size _) (tab_lt hT)
      rintro e w3 ⟨rfl, hb⟩
      have hb3 := Lib.hid hb
      clear hb
      go_wp2_with fail
      go_ret
      exact ⟨rfl, (hbel2.out.alloc hbel2.out.size _).trans (hb3.out.mono (by have := hbel2.out.size; simp; omega))⟩
  · have ho0 := Lib.hid h0
    have ho1 := Lib.hid h1
    clear h0 h1
    go_enter Tryd.func6, Tryd.ntmps6
    go_wp2_with fail
    refine (tally_ok l0 _ _ _ _ _ _ rfl ho0.out _ _ _ _ hr0 (by omega)).mono ?_
    rintro e w1 ⟨rfl, hb⟩
    have hb1 := Lib.hid hb
    clear hb
    go_wp2_with fail
    refine (tally_no l1 ho1.out _ _ _ _ ?_ (by omega)).mono ?_
    · exact ((hr1.out.below hb1.out).alloc hb1.out.size _).more (by have := hb1.out.size; simp; omega)
    rintro e w2 ⟨rfl, hb⟩
    have hb2 := Lib.hid hb
    have hz : w1.heap.size < w2.heap.size := by have := hb2.out.size; simp at this; omega
    have hbel2 : Hid (Below w.heap.size w w2) := (hb1.out.alloc hb1.out.size _).trans (hb2.out.mono (by have := hb1.out.size; simp; omega))
    clear hb
    go_wp2_with fail
    all_goals
      refine (known_any _ ?_).mono ?_
      · exact tab_below hT (hbel2.out.alloc hbel2.out.size _) (tab_lt hT)
      rintro e w3 ⟨rfl, hb⟩
      have hb3 := Lib.hid hb
      clear hb
      go_wp2_with fail
      go_ret
      exact ⟨rfl, (hbel2.out.alloc hbel2.out.size _).trans (hb3.out.mono (by have := hbel2.out.size; simp; omega))⟩
  · have ho0 := Lib.hid h0
    have ho1 := Lib.hid h1
    clear h0 h1
    by_cases hb0 : 500 < len0
    · go_enter Tryd.func6, Tryd.ntmps6
      go_wp2_with fail
      refine (tally_ok l0 _ _ _ _ _ _ rfl ho0.out _ _ _ _ hr0 (by omega)).mono ?_
      rintro e w1 ⟨rfl, hb⟩
      have hb1 := Lib.hid hb
      clear hb
      go_wp2_with fail
      refine (tally_ok l1 _ _ _ _ _ _ rfl ho1.out _ _ _ _ ?_ (by omega)).mono ?_
      · exact ((hr1.out.below hb1.out).alloc hb1.out.size _).more (by have := hb1.out.size; simp; omega)
      rintro e w2 ⟨rfl, hb⟩
      have hb2 := Lib.hid hb
      have hz : w1.heap.size < w2.heap.size := by have := hb2.out.size; simp at this; omega
      have hbel2 : Hid (Below w.heap.size w w2) := (hb1.out.alloc hb1.out.size _).trans (hb2.out.mono (by have := hb1.out.size; simp; omega))
      clear hb
      go_wp2_with fail
      all_goals
        refine (known_any _ ?_).mono ?_
        · exact tab_below hT (hbel2.out.alloc hbel2.out.size _) (tab_lt hT)
        rintro e w3 ⟨rfl, hb⟩
        have hb3 := Lib.hid hb
        clear hb
        go_wp2_with fail
        go_ret
        exact ⟨rfl, (hbel2.out.alloc hbel2.out.size _).trans (hb3.out.mono (by have := hbel2.out.size; simp; omega))⟩
    by_cases hb1' : 500 < len1
    · go_enter Tryd.func6, Tryd.ntmps6
      go_wp2_with fail
      refine (tally_ok l0 _ _ _ _ _ _ rfl ho0.out _ _ _ _ hr0 (by omega)).mono ?_
      rintro e w1 ⟨rfl, hb⟩
      have hb1 := Lib.hid hb
      clear hb
      go_wp2_with fail
      refine (tally_ok l1 _ _ _ _ _ _ rfl ho1.out _ _ _ _ ?_ (by omega)).mono ?_
      · exact ((hr1.out.below hb1.out).alloc hb1.out.size _).more (by have := hb1.out.size; simp; omega)
      rintro e w2 ⟨rfl, hb⟩
      have hb2 := Lib.hid hb
      have hz : w1.heap.size < w2.heap.size := by have := hb2.out.size; simp at this; omega
      have hbel2 : Hid (Below w.heap.size w w2) := (hb1.out.alloc hb1.out.size _).trans (hb2.out.mono (by have := hb1.out.size; simp; omega))
      clear hb
      go_wp2_with fail
      all_goals
        refine (known_any _ ?_).mono ?_
        · exact tab_below hT (hbel2.out.alloc hbel2.out.size _) (tab_lt hT)
        rintro e w3 ⟨rfl, hb⟩
        have hb3 := Lib.hid hb
        clear hb
        go_wp2_with fail
        go_ret
        exact ⟨rfl, (hbel2.out.alloc hbel2.out.size _).trans (hb3.out.mono (by have := hbel2.out.size; simp; omega))⟩
    go_enter Tryd.func6, Tryd.ntmps6
    go_wp2_with fail
    refine (tally_ok l0 _ _ _ _ _ _ rfl ho0.out _ _ _ _ hr0 (by omega)).mono ?_
    rintro e w1 ⟨rfl, hb⟩
    have hb1 := Lib.hid hb
    clear hb
    go_wp2_with fail
    refine (tally_ok l1 _ _ _ _ _ _ rfl ho1.out _ _ _ _ ?_ (by omega)).mono ?_
    · exact ((hr1.out.below hb1.out).alloc hb1.out.size _).more (by have := hb1.out.size; simp; omega)
    rintro e w2 ⟨rfl, hb⟩
    have hb2 := Lib.hid hb
    have hz : w1.heap.size < w2.heap.size := by have := hb2.out.size; simp at this; omega
    have hbel2 : Hid (Below w.heap.size w w2) := (hb1.out.alloc hb1.out.size _).trans (hb2.out.mono (by have := hb1.out.size; simp; omega))
    clear hb
    have hB0 := Lib.hid ((Blk.new w1 25 (talV l0)).below hb2.out (by simp))
    clear hb1 hb2
    go_wp2_with (first
      | (at_builtin; refine wpList_append_any _ rfl (.tmp 40) (.tmp 41) _ rfl (w2.heap.size + 1) 3 i0 _ 1 8 Tryd.underlying29 hi0 hz0 hz1 hz2 rfl (by omega) (.slice (some ⟨w2.heap.size + 1, 0, none⟩) 0 0) 0 [] rfl (own_lit _ #[] 0 _ (by simp) (by simp) (Nat.zero_le _) rfl) w.heap.size a1 len1 cap1 (ints l1) rfl (((hr1.out.below hbel2.out).alloc hbel2.out.size _).alloc (by have := hbel2.out.size; simp; omega) _) (ints_one l1) (by unfold maxLen; omega) (by omega) (by simp) ?_; intro v3 w3 hown3 hg3 hat3)
      | (at_builtin; have _t := hown3; go_must (refine wpList_append_any _ rfl (.tmp 42) (.tmp 43) _ rfl (w2.heap.size + 1) 3 i0 _ 1 8 Tryd.underlying29 hi0 hz0 hz1 hz2 rfl (by omega) v3 (0 + len1) ([] ++ ints l1) rfl hown3 w.heap.size a0 len0 cap0 (ints l0) rfl ((((hr0.out.below hbel2.out).alloc hbel2.out.size _).alloc (by have := hbel2.out.size; simp; omega) _).grown hg3 (by have := hbel2.out.size; simp; omega) (fun g hg => by have := hbel2.out.size; simp [Value.ownBlock] at hg; omega)) (ints_one l0) (by unfold maxLen; omega) (by omega) (by have h3 := hg3.size; simp at h3; omega) ?_); intro v4 w4 hown4 hg4 hat4))
    simp only [Nat.zero_add, List.nil_append, ← ints_append] at hown4
    have hw3 : Hid (Below (w2.heap.size + 1) (w2.alloc (.cells (talV l1) 25)) w3) :=
      ((Below.refl _ _).alloc (by simp) _).grown hg3 (by simp) (fun g hg => by simp [Value.ownBlock] at hg; omega)
    have hw4 : Hid (Below (w2.heap.size + 1) (w2.alloc (.cells (talV l1) 25)) w4) :=
      hw3.out.grown hg4 (by have h3 := hw3.out.size; simp at h3; omega) (fun g hg => (hown3.lt g hg).1)
    obtain ⟨A4, c4, rfl, _⟩ := own_form hown4
    have ho4 := Lib.hid hown4
    have hr4 := Lib.hid (Reads.of_own hown4)
    clear hown4 hown3 hg3 hg4 hat3 hat4
    have hoz := Lib.hid (okH_append ho0.out ho1.out)
    have hlz : Hid ((l1 ++ l0).length = len1 + len0) := by unfold Hid; rw [List.length_append, hl0.out, hl1.out]
    refine (tally_ok (l1 ++ l0) _ _ _ _ _ _ rfl hoz.out _ _ _ _ hr4 (by omega)).mono ?_
    rintro e w5 ⟨rfl, hb⟩
    have hb5 := Lib.hid hb
    clear hb hr4 ho4
    -- the three arrays, each in its block
    have hz4 : w2.heap.size + 1 ≤ w4.heap.size := by have h3 := hw4.out.size; simp at h3; omega
    have hz5 : w4.heap.size ≤ w5.heap.size := hb5.out.size
    have k0 : Hid (Blk w5 w1.heap.size 25 (talV l0)) := ((hB0.out.alloc _).below hw4.out (by omega)).below hb5.out (by omega)
    have k1 : Hid (Blk w5 w2.heap.size 25 (talV l1)) := ((Blk.new w2 25 (talV l1)).below hw4.out (by omega)).below hb5.out (by omega)
    have hbel5 : Hid (Below w.heap.size w w5) := (hbel2.out.alloc hbel2.out.size _).trans ((hw4.out.mono (by have := hbel2.out.size; omega)).trans (hb5.out.mono (by have := hbel2.out.size; omega)))
    have hsz := Lib.hid hbel5.out.size
    clear hw3 hw4 hb5 hB0
    go_wp2_with fail
    go_loopw [10, 11] (fun s i wr => ∃ k : Nat, k ≤ 6 ∧ i = .int .i64 k ∧ s = .int .i64 (sumT (l1 ++ l0) k) ∧ Hid (Blk wr w1.heap.size 25 (talV l0)) ∧ Hid (Blk wr w2.heap.size 25 (talV l1)) ∧ Hid (Blk wr w5.heap.size 25 (talV (l1 ++ l0))) ∧ Hid (Below w.heap.size w wr)) (fun _ i _ => 6 - (intOf i).toNat)
    case atStart => exact ⟨0, by omega, rfl, rfl, k0.out.alloc _, k1.out.alloc _, Blk.new w5 _ _, hbel5.out.alloc hsz.out _⟩
    case round =>
      obtain ⟨k, hk, rfl, rfl, q0, q1, q2, hbel⟩ := hrel
      have hsl := sumT_le (l1 ++ l0) k
      rw [hlz.out] at hsl
      have hsb : sumT (l1 ++ l0) k ≤ 6000 := Nat.le_trans hsl (Nat.le_trans (Nat.mul_le_mul hk (Nat.le_refl _)) (by omega))
      clear hsl
      by_cases hlt : k < 6
      · have c0 := talV_cells q0.out k hlt
        have c1 := talV_cells q1.out k hlt
        have c2 := talV_cells q2.out k hlt
        have e2 := tal_append l1 l0 k
        have b0 := tal_le l0 k
        have b1 := tal_le l1 k
        rw [hl0.out] at b0
        rw [hl1.out] at b1
        have hsum : Hid (sumT (l1 ++ l0) (k + 1) = sumT (l1 ++ l0) k + (tal l0 k + tal l1 k)) := by
          show sumT (l1 ++ l0) k + tal (l1 ++ l0) k = _
          rw [e2]
          omega
        rw [e2, Nat.add_comm, Int.natCast_add] at c2
        generalize tal l0 k = p at *
        generalize tal l1 k = q at *
        generalize sumT (l1 ++ l0) k = r at *
        clear e2
        have i0 : (0 : Int) ≤ (k : Int) := by omega
        have i1 : (k : Int) < 6 := by omega
        have hw := IntWalk.i64_in ((p : Int) + (q : Int)) (by omega)
        go_wp2_with fail
        go_quiet (fail)
        clear hw
        go_wp2_with fail
        go_roundw
        case rel => exact ⟨k + 1, by omega, by go_num, by rw [hsum.out]; go_num, q0, q1, q2, below_drewN hbel.out _⟩
        case measure => simp [intOf]; omega
      · obtain rfl : k = 6 := by omega
        have hs6 : sumT (l1 ++ l0) 6 = len1 + len0 := by rw [sumT_six _ hoz.out, hlz.out]
        rw [hs6]
        clear hs6 hsb
        have hT' : Hid (Tab wr) := tab_below hT hbel.out (tab_lt hT)
        have ec : (((len1 + len0 : Nat) : Int) == (len0 : Int) + (len1 : Int)) = true := by simp; omega
        go_wp2_with fail
        refine (known_any _ hT').mono ?_
        rintro e w6 ⟨rfl, hb⟩
        have hb6 := Lib.hid hb
        clear hb
        go_wp2_with fail
        go_ret
        exact ⟨rfl, hbel.out.trans (hb6.out.mono hbel.out.size)⟩
end Go.Proofs.YtmokfjlkfhopnaaDoor
