/- The reference's map, walked: cut (printed by gen_refcut.py). -/
import Derived.Test.YtfghkmhabpagkaaRefSet
namespace Go.Proofs.Ytfghkmhabpagkaa
open Go Go.RowKit
set_option linter.unusedVariables false

theorem has02_any (lo hi k : Int) (w : World) : Calls Try.prog 56 #[.agg #[.int .u64 lo, .int .u64 hi], .int .u64 k] w fun e w' => e = .returned (.bool (inB lo hi k)) ∧ Below w.heap.size w w' := by
  by_cases h1 : lo ≤ k
  · by_cases h2 : k ≤ hi
    · have hb : inB lo hi k = true := by simp [inB, h1, h2]
      rw [hb]
      clear hb
      go_enter Try.func56, Try.ntmps56
      go_wp2
      go_ret
      exact ⟨by simp, (Below.refl _ _).alloc (Nat.le_refl _) _⟩
    · have hb : inB lo hi k = false := by simp [inB, h2]
      rw [hb]
      clear hb
      have hd : decide (k ≤ hi) = false := by simpa using h2
      go_enter Try.func56, Try.ntmps56
      go_wp2
      go_ret
      exact ⟨by simp, (Below.refl _ _).alloc (Nat.le_refl _) _⟩
  · have hb : inB lo hi k = false := by simp [inB, h1]
    rw [hb]
    clear hb
    have hd : decide (lo ≤ k) = false := by simpa using h1
    go_enter Try.func56, Try.ntmps56
    go_wp2
    go_ret
    exact ⟨by simp, (Below.refl _ _).alloc (Nat.le_refl _) _⟩

theorem outR_yes {lo hi : Int} {l : List Pr} {k : Nat} {p : Pr} (h : l[k]? = some p) (hb : inB lo hi p.key = false) : outR lo hi (l.take (k + 1)) = outR lo hi (l.take k) ++ [p] := by
  unfold outR
  rw [List.take_add_one, h, List.filter_append]
  simp [hb]
theorem outR_no {lo hi : Int} {l : List Pr} {k : Nat} {p : Pr} (h : l[k]? = some p) (hb : inB lo hi p.key = true) : outR lo hi (l.take (k + 1)) = outR lo hi (l.take k) := by
  unfold outR
  rw [List.take_add_one, h, List.filter_append]
  simp [hb]
theorem outR_le (lo hi : Int) (l : List Pr) : (outR lo hi l).length ≤ l.length := List.length_filter_le _ _
/-- Two owned rows lie apart. -/
def Apart (u v : Value) : Prop := ∀ q, u.ownBlock = some q → v.ownBlock ≠ some q
theorem Apart.symm {u v : Value} (h : Apart u v) : Apart v u := fun q h1 h2 => h q h2 h1
theorem Apart.grow {u v u' : Value} {w : World} {base e size n : Nat} {xs : List Value} (h : Apart u v) (hv : w.ownsRow base e size v n xs) (hat : u'.ownBlock = u.ownBlock ∨ u'.ownBlock = some w.heap.size) : Apart u' v := by
  intro q hq
  rcases hat with h1 | h1
  · exact h q (by rw [← h1]; exact hq)
  · rw [h1] at hq
    obtain rfl := Option.some.inj hq
    intro h2
    have := (hv.lt _ h2).2
    omega
theorem Apart.kept {u v : Value} (h : Apart u v) : v.ownBlock = none ∨ v.ownBlock ≠ u.ownBlock := by
  rcases hu : u.ownBlock with _ | q
  · rcases hv : v.ownBlock with _ | r
    · exact .inl rfl
    · exact .inr (by simp)
  · exact .inr (h q hu)

set_option maxRecDepth 100000 in
set_option maxHeartbeats 2000000 in
theorem cut_any (l : List Pr) (g : Nat) (lo hi : Int) (w : World) (hm : Hid (IsM w g l)) :
    Calls Try.prog 42 #[.pointer (some ⟨g, 0, none⟩), .agg #[.int .u64 lo, .int .u64 hi]] w fun e w' => ∃ A c, e = .returned (.slice A (inR lo hi l).length c) ∧
      w'.ownsRow (w.heap.size + 1) 38 2 (.slice A (inR lo hi l).length c) (inR lo hi l).length (prs (inR lo hi l)) ∧ MapEnd g (outR lo hi l) w w' := by
  obtain ⟨i0, hi0, hz0, hz1, hz2⟩ := info_parts infoPair
  obtain ⟨A, n, c, hB0, hr, hn, hc, hc'⟩ := hm.out
  have hr := Lib.hid hr
  have hlen := Lib.hid (prs_n hr.out)
  have hgw := hB0.lt
  have hB0 := Lib.hid hB0
  go_enter Try.func42, Try.ntmps42
  go_wp2_with fail
  go_loopw [5, 6, 7] (fun v u i wr => ∃ (k : Nat), k ≤ n ∧ i = .int .i64 k ∧ Hid (wr.ownsRow (w.heap.size + 1) 38 2 v (inR lo hi (l.take k)).length (prs (inR lo hi (l.take k)))) ∧ Hid (wr.ownsRow (w.heap.size + 1) 38 2 u (outR lo hi (l.take k)).length (prs (outR lo hi (l.take k)))) ∧ Hid (Apart v u) ∧ Hid (Below w.heap.size w wr) ∧ Hid (Blk wr w.heap.size 25 #[.int .u64 lo, .int .u64 hi])) (fun _ _ i _ => n - (intOf i).toNat)
  case atStart => exact ⟨0, by omega, rfl, World.ownsRow_nil _ _ _ _, World.ownsRow_nil _ _ _ _, fun q h => by simp [Value.ownBlock] at h, (Below.refl _ _).alloc (Nat.le_refl _) _, Blk.new w _ _⟩
  case round =>
    obtain ⟨k, hk, rfl, hown, hrow, hap, hbel, hB⟩ := hrel
    have hsz := Lib.hid hbel.out.size
    have hgl := hB.out.lt
    have L0 := hB.out.cell 0
    have L1 := hB.out.cell 1
    simp at L0 L1
    have hbg := Lib.hid (hB0.out.below hbel.out hgw)
    have hg := hbg.out.cell 0
    have hgf := hbg.out.frozen 0
    simp at hg
    have hgr : g < wr.heap.size := by omega
    by_cases hlt : k < n
    · obtain ⟨b, o, rfl, hbB⟩ := reads_head hr.out (by omega) (by decide)
      obtain ⟨p, hx, p0, p1⟩ := prs_at (hr.out.below hbel.out) hlt
      have hX := Lib.hid hx
      have hil : (inR lo hi (l.take k)).length ≤ k := Nat.le_trans (inR_le _ _ _) (List.length_take_le _ _)
      have hol : (outR lo hi (l.take k)).length ≤ k := Nat.le_trans (outR_le _ _ _) (List.length_take_le _ _)
      obtain ⟨is, his⟩ : ∃ is, inR lo hi (l.take k) = is := ⟨_, rfl⟩
      obtain ⟨os, hos⟩ : ∃ os, outR lo hi (l.take k) = os := ⟨_, rfl⟩
      rw [his] at hown hil
      rw [hos] at hrow hol
      have hIS := Lib.hid his
      have hOS := Lib.hid hos
      clear his hos
      obtain ⟨qk, qv⟩ := p
      dsimp only at p0 p1
      have j0 : (0 : Int) ≤ (k : Int) := by omega
      have j1 : (k : Int) < (n : Int) := by omega
      have hbw : b < wr.heap.size := by have := hsz.out; omega
      clear hx
      go_wp2_with fail
      go_still_tail 9, (by kernel_rfl)
      change wpList _ _ _ _ _ wr.drew
      go_wp2_with fail
      refine (has02_any lo hi qk _).mono ?_
      rintro e w3 ⟨rfl, hb⟩
      have hb3 : Hid (Below wr.heap.size wr w3) := (Below.refl _ _).drew.trans hb
      have hbel3 : Hid (Below w.heap.size w w3) := hbel.out.trans (hb3.out.mono hsz.out)
      have hown3 := Lib.hid (own_below hown.out hb3.out)
      have hrow3 := Lib.hid (own_below hrow.out hb3.out)
      have hB3 : Hid (Blk w3 w.heap.size 25 #[.int .u64 lo, .int .u64 hi]) := hB.out.below hb3.out hgl
      have hg3 := (hB0.out.below hbel3.out hgw).cell 0
      simp at hg3
      have hz3 := Lib.hid hbel3.out.size
      have q0 := (hb3.out.cell (p := ⟨b, o + k * 2, none⟩) hbw).trans p0
      have q1 := (hb3.out.cell (p := ⟨b, o + k * 2 + 1, none⟩) hbw).trans p1
      have hgr3 : g < w3.heap.size := by have := hz3.out; omega
      have hbw3 : b < w3.heap.size := by have := hz3.out; omega
      clear hb hb3 L0 L1 p0 p1 hg hgf hbg
      rcases hin : inB lo hi qk with _ | _
      · -- out of the range
        have hY := Lib.hid (outR_yes (lo := lo) (hi := hi) hX.out hin)
        have hN := Lib.hid (inR_no (lo := lo) (hi := hi) hX.out hin)
        clear hin
        go_wp2_with (at_builtin; refine wpList_append_any _ rfl (.tmp 37) (.tmp 45) 22 rfl (w.heap.size + 1) 38 i0 _ 2 16 Try.underlying22 hi0 hz0 hz1 hz2 rfl (by decide) u6 os.length (prs os) rfl (hrow3.out.alloc _) (w3.heap.size + 1) (some ⟨w3.heap.size, 0, none⟩) 1 1 (prC ⟨qk, qv⟩) rfl ((reads_at w3 _ (prC ⟨qk, qv⟩) 1 _ rfl rfl).more (by simp)) (prC_one _) (by unfold maxLen; omega) (by omega) (by have := hz3.out; simp; omega) ?_; intro v1 w4 hown1 hg1 hat1)
        have hne : u6.ownBlock ≠ some w.heap.size := fun h => by have := (hrow3.out.lt _ h).1; omega
        have hbel4 : Hid (Below w.heap.size w w4) := (hbel3.out.alloc hz3.out _).grown hg1 (by have := hz3.out; simp; omega) (fun q hq => by have := (hrow3.out.lt q hq).1; omega)
        have hrow4 : Hid (w4.ownsRow (w.heap.size + 1) 38 2 v1 (outR lo hi (l.take (k + 1))).length (prs (outR lo hi (l.take (k + 1))))) := by
          unfold Hid
          rw [hY.out, hOS.out, List.length_append]
          exact own_snocP hown1
        have hown4 : Hid (w4.ownsRow (w.heap.size + 1) 38 2 u5 (inR lo hi (l.take (k + 1))).length (prs (inR lo hi (l.take (k + 1))))) := by
          unfold Hid
          rw [hN.out, hIS.out]
          exact (hown3.out.alloc _).kept hg1 hap.out.symm.kept
        have hap4 : Hid (Apart u5 v1) := (Apart.grow hap.out.symm (hown3.out.alloc _) hat1).symm
        have hB4 : Hid (Blk w4 w.heap.size 25 #[.int .u64 lo, .int .u64 hi]) := (hB3.out.alloc _).grown hg1 (fun h => hne h.symm)
        clear hown1 hg1 hat1 hne
        go_wp2
        go_roundw
        case rel => exact ⟨k + 1, by omega, by go_num, hown4, hrow4, hap4, hbel4, hB4⟩
        case measure => simp [intOf]; omega
      · -- in the range
        have hY := Lib.hid (inR_yes (lo := lo) (hi := hi) hX.out hin)
        have hN := Lib.hid (outR_no (lo := lo) (hi := hi) hX.out hin)
        clear hin
        go_wp2_with (at_builtin; refine wpList_append_any _ rfl (.tmp 27) (.tmp 35) 22 rfl (w.heap.size + 1) 38 i0 _ 2 16 Try.underlying22 hi0 hz0 hz1 hz2 rfl (by decide) u5 is.length (prs is) rfl (hown3.out.alloc _) (w3.heap.size + 1) (some ⟨w3.heap.size, 0, none⟩) 1 1 (prC ⟨qk, qv⟩) rfl ((reads_at w3 _ (prC ⟨qk, qv⟩) 1 _ rfl rfl).more (by simp)) (prC_one _) (by unfold maxLen; omega) (by omega) (by have := hz3.out; simp; omega) ?_; intro v1 w4 hown1 hg1 hat1)
        have hne : u5.ownBlock ≠ some w.heap.size := fun h => by have := (hown3.out.lt _ h).1; omega
        have hbel4 : Hid (Below w.heap.size w w4) := (hbel3.out.alloc hz3.out _).grown hg1 (by have := hz3.out; simp; omega) (fun q hq => by have := (hown3.out.lt q hq).1; omega)
        have hown4 : Hid (w4.ownsRow (w.heap.size + 1) 38 2 v1 (inR lo hi (l.take (k + 1))).length (prs (inR lo hi (l.take (k + 1))))) := by
          unfold Hid
          rw [hY.out, hIS.out, List.length_append]
          exact own_snocP hown1
        have hrow4 : Hid (w4.ownsRow (w.heap.size + 1) 38 2 u6 (outR lo hi (l.take (k + 1))).length (prs (outR lo hi (l.take (k + 1))))) := by
          unfold Hid
          rw [hN.out, hOS.out]
          exact (hrow3.out.alloc _).kept hg1 hap.out.kept
        have hap4 : Hid (Apart v1 u6) := Apart.grow hap.out (hrow3.out.alloc _) hat1
        have hB4 : Hid (Blk w4 w.heap.size 25 #[.int .u64 lo, .int .u64 hi]) := (hB3.out.alloc _).grown hg1 (fun h => hne h.symm)
        clear hown1 hg1 hat1 hne
        go_wp2
        go_roundw
        case rel => exact ⟨k + 1, by omega, by go_num, hown4, hrow4, hap4, hbel4, hB4⟩
        case measure => simp [intOf]; omega
    · obtain rfl : k = n := by omega
      have htk : l.take k = l := List.take_of_length_le (by have := hlen.out; omega)
      rw [htk] at hown hrow
      obtain ⟨A3, c3, rfl, _⟩ := own_form hrow.out
      obtain ⟨A4, c4, rfl, _⟩ := own_form hown.out
      have hle := outR_le lo hi l
      have hLE : Hid ((outR lo hi l).length ≤ 1000000) := by have := hlen.out; unfold Hid; omega
      have hgo : Value.ownBlock (.slice A4 (inR lo hi l).length c4) ≠ some g := fun h => by have := (hown.out.lt _ h).1; omega
      have hGO := Lib.hid hgo
      clear htk hle hgo
      go_wp2_with fail
      go_ret
      exact ⟨A4, c4, rfl, hown.out.kept (but_set wr g _) (.inr hGO.out), isM_set hm.out hbel.out hrow.out hLE.out, (below_but hbel.out g).trans (but_set _ g _)⟩
end Go.Proofs.Ytfghkmhabpagkaa
