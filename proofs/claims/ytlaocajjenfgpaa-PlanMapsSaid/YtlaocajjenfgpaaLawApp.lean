/- The law PlanApplies, walked. -/
import Derived.Test.YtlaocajjenfgpaaRApp
import Derived.Test.YtlaocajjenfgpaaLawThen
import Derived.Test.YtlaocajjenfgpaaLawUndo
namespace Go.Proofs.Ytlaocajjenfgpaa
open Go Go.RowKit
set_option linter.unusedVariables false

theorem own_set {w : World} {base e size n : Nat} {v : Value} {xs : List Value} (h : w.ownsRow base e size v n xs) {p : Addr} (hp : p.block < base) (u : Value) : (w.setCell p u).ownsRow base e size v n xs :=
  h.kept (row := some p.block) ⟨rfl, rfl, rfl, by simp, fun k _ hne => Below.heap_setCell w p u k (fun e => hne (by rw [e]))⟩ (.inr fun h2 => by have := (h.lt _ h2).1; omega)

/-- What Apply's list and its error are. -/
noncomputable def outA (ps : List Pr) (l : List Chg) : List Pr × Int :=
  open Classical in if Asc ps ∧ Plan l then (match app l ps with | none => ([], 8) | some r => (r, 0)) else ([], 2)
theorem outA_len (ps : List Pr) (l : List Chg) : (outA ps l).1.length ≤ ps.length + l.length := by
  unfold outA
  split
  · rename_i h
    rcases hq : app l ps with _ | r
    · simp
    · exact app_le h.2 hq
  · simp
theorem appOut {ps : List Pr} {l : List Chg} {w : World} {e : Ending} {w' : World} (h : AppEnd ps l w e w') :
    (∃ A c, e = .returned (.tuple #[.slice A (outA ps l).1.length c, .int .i64 (outA ps l).2]) ∧ w'.ownsRow w.heap.size 47 2 (.slice A (outA ps l).1.length c) (outA ps l).1.length (prs (outA ps l).1)) ∧ Below w.heap.size w w' := by
  obtain ⟨h1, h2, h3, hb⟩ := h
  refine ⟨?_, hb⟩
  unfold outA
  by_cases hp : Asc ps ∧ Plan l
  · rw [if_pos hp]
    rcases ht : app l ps with _ | r
    · exact ⟨none, 0, h2 hp ht, World.ownsRow_nil _ _ _ _⟩
    · obtain ⟨A, c, he, ho⟩ := h3 hp r ht
      exact ⟨A, c, he, ho⟩
  · rw [if_neg hp]
    exact ⟨none, 0, h1 hp, World.ownsRow_nil _ _ _ _⟩
theorem rappOut {ps : List Pr} {l : List Chg} {w : World} {e : Ending} {w' : World} (h : RAppEnd ps l w e w') :
    (∃ A c, e = .returned (.tuple #[.slice A (outA ps l).1.length c, .int .i64 (outA ps l).2]) ∧ Reads w' w'.heap.size 2 A (outA ps l).1.length (prs (outA ps l).1)) ∧ Below w.heap.size w w' := by
  obtain ⟨h1, h2, h3, hb⟩ := h
  refine ⟨?_, hb⟩
  unfold outA
  by_cases hp : Asc ps ∧ Plan l
  · rw [if_pos hp]
    rcases ht : app l ps with _ | r
    · exact ⟨none, 0, h2 hp ht, Reads.none_⟩
    · obtain ⟨A, c, he, ho, _⟩ := h3 hp r ht
      exact ⟨A, c, he, ho⟩
  · rw [if_neg hp]
    exact ⟨none, 0, h1 hp, Reads.none_⟩
/-- What Invert's list and its error are. -/
noncomputable def outI (l : List Chg) : List Chg × Int := open Classical in if Plan l then (inv l, 0) else ([], 2)
theorem outI_len (l : List Chg) : (outI l).1.length ≤ l.length := by
  unfold outI
  split
  · simp [inv]
  · simp
theorem invOut {l : List Chg} {w : World} {e : Ending} {w' : World} (h : InvEnd l w e w') : ChgEnd (outI l) w e w' := by
  obtain ⟨h1, h2, hb⟩ := h
  unfold outI
  by_cases hp : Plan l
  · rw [if_pos hp]
    obtain ⟨A, c, he, ho⟩ := h1 hp
    have hl : (inv l).length = l.length := List.length_map ..
    refine ⟨A, c, ?_, ?_, hb⟩
    · rw [he, hl]
    · show w'.ownsRow w.heap.size 37 5 (.slice A (inv l).length c) (inv l).length (chs (inv l))
      rw [hl]
      exact ho
  · rw [if_neg hp, h2 hp]
    exact chgEnd_nil hb
noncomputable def outK (l : List Chg) : Int := open Classical in if Plan l then 0 else 2
theorem checkOut {l : List Chg} {w : World} {e : Ending} {w' : World} (h : CheckEnd l w e w') : e = .returned (.int .i64 (outK l)) ∧ Below w.heap.size w w' := by
  obtain ⟨h1, h2, hb⟩ := h
  unfold outK
  by_cases hp : Plan l
  · rw [if_pos hp]; exact ⟨h1 hp, hb⟩
  · rw [if_neg hp]; exact ⟨h2 hp, hb⟩
noncomputable def outN (l : List Chg) : Int × Int × Int × Int := open Classical in if Plan l then (born l, gone l, swapped l, 0) else (0, 0, 0, 2)
theorem countOut {l : List Chg} {w : World} {e : Ending} {w' : World} (h : CountEnd l w e w') : e = .returned (.tuple #[.int .i64 (outN l).1, .int .i64 (outN l).2.1, .int .i64 (outN l).2.2.1, .int .i64 (outN l).2.2.2]) ∧ Below w.heap.size w w' := by
  obtain ⟨h1, h2, hb⟩ := h
  unfold outN
  by_cases hp : Plan l
  · rw [if_pos hp]; exact ⟨h1 hp, hb⟩
  · rw [if_neg hp]; exact ⟨h2 hp, hb⟩

set_option maxRecDepth 100000 in
set_option maxHeartbeats 4000000 in
theorem applies_law (a0 : Option Addr) (len0 cap0 : Nat) (ps : List Pr) (a1 : Option Addr) (len1 cap1 : Nat) (l : List Chg) (w : World) (h0 : IsPairs w a0 len0 cap0 ps) (h1 : IsChanges w a1 len1 cap1 l) :
    Calls Try.prog 6 #[.slice a0 len0 cap0, .slice a1 len1 cap1] w fun e w' => e = .returned (.bool true) ∧ Below w.heap.size w w' := by
  obtain ⟨i0, hi0, hz0, hz1, hz2⟩ := info_parts infoPair
  obtain ⟨j0, hj0, hy0, hy1, hy2⟩ := info_parts infoChg
  have hr : Hid (Reads w w.heap.size 2 a0 len0 (prs ps)) := h0.reads
  have hr' : Hid (Reads w w.heap.size 5 a1 len1 (chs l)) := h1.reads
  have hm0 : len0 ≤ cap0 ∧ cap0 ≤ 9223372036854775807 := by have h1 := h0.le; have h2 := h0.cap; unfold maxLen at h2; omega
  have hm1 : len1 ≤ cap1 ∧ cap1 ≤ 9223372036854775807 := by have h2 := h1.le; have h3 := h1.cap; unfold maxLen at h3; omega
  obtain ⟨hm0, hm0'⟩ := hm0
  obtain ⟨hm1, hm1'⟩ := hm1
  have hl0 := Lib.hid (prs_n hr.out)
  have hl1 := Lib.hid (chs_n hr'.out)
  clear h0 h1
  by_cases hbig : 60 < len0
  · have hd : decide ((60 : Int) < (len0 : Int)) = true := by simp; omega
    go_enter Try.func6, Try.ntmps6
    go_wp2_with fail
    refine (known_any _).mono ?_
    rintro e w1 ⟨rfl, hb⟩
    have hb1 := Lib.hid hb
    clear hb
    go_wp2_with fail
    go_ret
    exact ⟨rfl, hb1.out⟩
  · have hd : decide ((60 : Int) < (len0 : Int)) = false := by simp; omega
    by_cases hbig1 : 60 < len1
    · have hd1 : decide ((60 : Int) < (len1 : Int)) = true := by simp; omega
      go_enter Try.func6, Try.ntmps6
      go_wp2_with fail
      refine (known_any _).mono ?_
      rintro e w1 ⟨rfl, hb⟩
      have hb1 := Lib.hid hb
      clear hb
      go_wp2_with fail
      go_ret
      exact ⟨rfl, hb1.out⟩
    · have hd1 : decide ((60 : Int) < (len1 : Int)) = false := by simp; omega
      go_enter Try.func6, Try.ntmps6
      go_wp2_with (at_builtin; first
        | (refine wpList_append_any _ rfl (.tmp 32) (.tmp 33) 22 rfl w.heap.size 47 i0 _ 2 16 Try.underlying22 hi0 hz0 hz1 hz2 rfl (by decide) (.slice (some ⟨w.heap.size, 0, none⟩) 0 0) 0 [] rfl (own_lit w #[] 0 _ rfl (Nat.le_refl _) (Nat.zero_le _) rfl) w.heap.size a0 len0 cap0 (prs ps) rfl (hr.out.alloc (Nat.le_refl _) _) (prs_one _) (by unfold maxLen; omega) (by omega) (by simp) ?_
           intro v1 w1 hown1 hg1 hat1
           have hb1 : Hid (Below w.heap.size w w1) := ((Below.refl _ _).alloc (Nat.le_refl _) _).grown hg1 (by simp) (fun q hq => by simp [Value.ownBlock] at hq; omega)
           rw [Nat.zero_add, List.nil_append] at hown1
           obtain ⟨x, cx, rfl, hcx, hcx'⟩ := own_form hown1
           have hx : Hid (Reads w1 w1.heap.size 2 x len0 (prs ps)) := Reads.of_own hown1
           have hs1 := hb1.out.size
           clear hown1 hg1 hat1)
        | (refine wpList_append_any _ rfl (.tmp 35) (.tmp 36) 27 rfl w1.heap.size 37 j0 _ 5 40 Try.underlying27 hj0 hy0 hy1 hy2 rfl (by decide) (.slice (some ⟨w1.heap.size, 0, none⟩) 0 0) 0 [] rfl (own_lit w1 #[] 0 _ rfl (Nat.le_refl _) (Nat.zero_le _) rfl) w.heap.size a1 len1 cap1 (chs l) rfl ((hr'.out.below hb1.out).alloc hs1 _) (chs_one _) (by unfold maxLen; omega) (by omega) (by simp) ?_
           intro v2 w2 hown2 hg2 hat2))
      have hb2' : Hid (Below w1.heap.size w1 w2) := ((Below.refl _ _).alloc (Nat.le_refl _) _).grown hg2 (by simp) (fun q hq => by simp [Value.ownBlock] at hq; omega)
      have hb2 : Hid (Below w.heap.size w w2) := hb1.out.trans (hb2'.out.mono hs1)
      rw [Nat.zero_add, List.nil_append] at hown2
      obtain ⟨y, cy, rfl, hcy, hcy'⟩ := own_form hown2
      unfold maxLen at hcx' hcy'
      have hy : Hid (Reads w2 w2.heap.size 5 y len1 (chs l)) := Reads.of_own hown2
      have hx2 := reads_on hx hb2'.out
      clear hown2 hg2 hat2 hx hb2' hb1
      go_wp2_with fail
      refine (apply_any ps l x y len0 len1 cx cy w2 hx2 hy (by omega) (by omega) hcx hcx').mono ?_
      rintro e w3 ht
      obtain ⟨⟨A3, c3, rfl, ho3⟩, hb⟩ := appOut ht
      have hrl := outA_len ps l
      rw [hl0.out, hl1.out] at hrl
      clear ht
      obtain ⟨r, hrr⟩ : ∃ r, (outA ps l).1 = r := ⟨_, rfl⟩
      obtain ⟨E, hE⟩ : ∃ E, (outA ps l).2 = E := ⟨_, rfl⟩
      have hRE := Lib.hid (And.intro hrr hE)
      rw [hrr] at ho3 hrl ⊢
      rw [hE]
      clear hrr hE
      obtain ⟨n, hn⟩ : ∃ n, r.length = n := ⟨_, rfl⟩
      rw [hn] at ho3 hrl ⊢
      have hN := Lib.hid hn
      clear hn
      have hb3' : Hid (Below w2.heap.size w2 w3) := hb
      have hb3 : Hid (Below w.heap.size w w3) := below_on hb2 hb
      have hs2 := hb2.out.size
      have hs23 := hb3'.out.size
      have hx3 := reads_on hx2 hb
      have hy3 := reads_on hy hb
      have ho3 := Lib.hid ho3
      clear hb
      go_wp2_with fail
      refine (refapply_any ps l a0 a1 len0 len1 cap0 cap1 w3 (reads_on hr hb3.out) (reads_on hr' hb3.out) (by omega) (by omega) ⟨hm0, hm0'⟩).mono ?_
      rintro e w4 ht
      obtain ⟨⟨A4, c4, rfl, hr4⟩, hb⟩ := rappOut ht
      clear ht
      rw [hRE.out.1] at hr4 ⊢
      rw [hRE.out.2]
      rw [hN.out] at hr4 ⊢
      have hr4 := Lib.hid hr4
      have hb4' : Hid (Below w2.heap.size w2 w4) := below_on hb3' hb
      have hb4 := below_on hb3 hb
      have ho4 := Lib.hid (own_below ho3.out hb)
      have hx4 := reads_on hx3 hb
      have hy4 := reads_on hy3 hb
      have hs34 := hb.size
      have hEE : (E != E) = false := by simp
      clear hb hx3 hy3 hb3 hb3' ho3
      go_wp2_with fail
      refine (sameP r A3 A4 n n c3 c4 w4 (Reads.of_own ho4.out) hr4 (by omega)).mono ?_
      rintro e w5 ⟨rfl, hb⟩
      have hb5' : Hid (Below w2.heap.size w2 w5) := below_on hb4' hb
      have hb5 := below_on hb4 hb
      have ho5 := Lib.hid (own_below ho4.out hb)
      have hx5 := reads_on hx4 hb
      have hy5 := reads_on hy4 hb
      clear hb hx4 hy4 hb4 hb4' ho4 hr4
      go_wp2_with fail
      refine (check_any l y len1 cy w5 hy5 (by omega)).mono ?_
      rintro e w6 ht
      obtain ⟨rfl, hb⟩ := checkOut ht
      obtain ⟨K, hK⟩ : ∃ K, outK l = K := ⟨_, rfl⟩
      have hKK := Lib.hid hK
      rw [hK]
      have hb6' : Hid (Below w2.heap.size w2 w6) := below_on hb5' hb
      have hb6 := below_on hb5 hb
      have ho6 := Lib.hid (own_below ho5.out hb)
      have hx6 := reads_on hx5 hb
      have hy6 := reads_on hy5 hb
      clear hb hx5 hy5 hb5 hb5' ho5 ht hK
      go_wp2_with fail
      refine (refcheck_any l a1 len1 cap1 w6 (reads_on hr' hb6.out) (by omega)).mono ?_
      rintro e w7 ht
      obtain ⟨rfl, hb⟩ := checkOut ht
      rw [hKK.out]
      have hK0 : (K != K) = false := by simp
      have hb7' : Hid (Below w2.heap.size w2 w7) := below_on hb6' hb
      have hb7 := below_on hb6 hb
      have ho7 := Lib.hid (own_below ho6.out hb)
      have hx7 := reads_on hx6 hb
      have hy7 := reads_on hy6 hb
      clear hb hx6 hy6 hb6 hb6' ho6 ht
      go_wp2_with fail
      refine (invert_any l y len1 cy w7 hy7 (by omega)).mono ?_
      rintro e w8 ht
      obtain ⟨A8, c8, rfl, ho8, hb⟩ := invOut ht
      have hil := outI_len l
      rw [hl1.out] at hil
      obtain ⟨s, hss⟩ : ∃ r, (outI l).1 = r := ⟨_, rfl⟩
      obtain ⟨F, hF⟩ : ∃ E, (outI l).2 = E := ⟨_, rfl⟩
      have hSF := Lib.hid (And.intro hss hF)
      rw [hss] at ho8 hil ⊢
      rw [hF]
      clear hss hF
      obtain ⟨m, hm⟩ : ∃ n, s.length = n := ⟨_, rfl⟩
      rw [hm] at ho8 hil ⊢
      have hM := Lib.hid hm
      clear hm ht
      have hb8' : Hid (Below w2.heap.size w2 w8) := below_on hb7' hb
      have hb8 := below_on hb7 hb
      have hoa8 := Lib.hid (own_below ho7.out hb)
      have hlt7 := Lib.hid (ho7.out.lt)
      have hx8 := reads_on hx7 hb
      have hy8 := reads_on hy7 hb
      have ho8 := Lib.hid ho8
      have hs27 := hb7'.out.size
      have hs78 := hb.size
      clear hb hx7 hy7 hb7 hb7' ho7
      go_wp2_with fail
      refine (refinvert_any l a1 len1 cap1 w8 (reads_on hr' hb8.out) (by omega)).mono ?_
      rintro e w9 ht
      obtain ⟨A9, c9, rfl, ho9, hb⟩ := invOut ht
      rw [hSF.out.1] at ho9 ⊢
      rw [hSF.out.2]
      rw [hM.out] at ho9 ⊢
      have hb9' : Hid (Below w2.heap.size w2 w9) := below_on hb8' hb
      have hb9 := below_on hb8 hb
      have hoa9 := Lib.hid (own_below hoa8.out hb)
      have hoc9 := Lib.hid (own_below ho8.out hb)
      have hx9 := reads_on hx8 hb
      have hy9 := reads_on hy8 hb
      have ho9 := Lib.hid ho9
      have hFF : (F != F) = false := by simp
      clear hb hx8 hy8 hb8 hb8' hoa8 ho8 ht
      go_wp2_with fail
      refine (sameC s A8 A9 m m c8 c9 w9 (Reads.of_own hoc9.out) (Reads.of_own ho9.out) (by omega)).mono ?_
      rintro e wa ⟨rfl, hb⟩
      have hba' : Hid (Below w2.heap.size w2 wa) := below_on hb9' hb
      have hba := below_on hb9 hb
      have hoa := Lib.hid (own_below hoa9.out hb)
      have hoc := Lib.hid (own_below hoc9.out hb)
      have hxa := reads_on hx9 hb
      have hya := reads_on hy9 hb
      clear hb hx9 hy9 hb9 hb9' hoa9 hoc9 ho9
      have hxB : Hid (Reads wa w2.heap.size 2 x len0 (prs ps)) := hx2.out.below hba'.out
      have hyB : Hid (Reads wa w2.heap.size 5 y len1 (chs l)) := hy.out.below hba'.out
      go_wp2_with fail
      go_loopw [13] (fun i wr => ∃ k : Nat, k ≤ n ∧ i = .int .i64 k ∧ Hid (Below w2.heap.size wa wr) ∧ Hid (0 < n → ∃ g cs, A3 = some ⟨g, 0, none⟩ ∧ w2.heap.size ≤ g ∧ g < w7.heap.size ∧ Blk wr g 47 cs ∧ n * 2 ≤ cs.size) ∧ Hid (wr.ownsRow w7.heap.size 37 5 (.slice A8 m c8) m (chs s))) (fun i _ => n - (intOf i).toNat)
      case atStart =>
        refine ⟨0, by omega, rfl, Below.refl _ _, fun h => ?_, hoc.out⟩
        obtain ⟨g, cs, h1, h2, h3, h4⟩ := own_blk hoa.out h
        exact ⟨g, cs, h1, h2, (hlt7.out g (by rw [h1]; rfl)).2, h3, h4⟩
      case round =>
        clear hoa hoc hxa hya
        obtain ⟨k, hk, rfl, hbel, hblk, hoc⟩ := hrel
        by_cases hlt : k < n
        · obtain ⟨g, cs, rfl, hg, hg7, hB, hcs⟩ := hblk.out (by omega)
          have hB : Hid (Blk wr g 47 cs) := hB
          have cell : ∀ j, j < 2 → ∃ u, wr.cell? ⟨g, k * 2 + j, none⟩ = some u := fun j hj => ⟨cs[k * 2 + j]'(by omega), by rw [hB.out.cell, Array.getElem?_eq_getElem]⟩
          obtain ⟨q0, C0⟩ := cell 0 (by omega)
          obtain ⟨q1, C1⟩ := cell 1 (by omega)
          have F0 := hB.out.frozen (k * 2)
          have F1 := hB.out.frozen (k * 2 + 1)
          rw [Nat.add_zero] at C0
          have j0' : (0 : Int) ≤ (k : Int) := by omega
          have j1 : (k : Int) < (n : Int) := by omega
          clear cell hblk
          go_wp2
          go_roundw
          case rel =>
            exact ⟨k + 1, by omega, by go_num, by unfold Hid; (repeat' (first | with_reducible exact hbel.out | (with_reducible refine Below.setCell ?_ (by first | (simp; omega) | simp | omega) _) | (with_reducible refine Below.alloc ?_ (by first | (simp; omega) | simp | omega) _) | with_reducible refine below_drewN ?_ _ | with_reducible refine Below.drew ?_)), fun _ => ⟨g, _, rfl, hg, hg7, (hB.out.set_ (k * 2) _).set_ (k * 2 + 1) _, by simpa using hcs⟩, own_set (own_set hoc.out (p := ⟨g, k * 2, none⟩) hg7 _) (p := ⟨g, k * 2 + 1, none⟩) hg7 _⟩
          case measure => simp [intOf]; omega
        · obtain rfl : k = n := by omega
          clear hblk
          obtain ⟨wb, hwb⟩ : ∃ wo : World, wo = wr := ⟨_, rfl⟩
          subst hwb
          go_wp2_with fail
          go_loopw [14] (fun i wr => ∃ j : Nat, j ≤ m ∧ i = .int .i64 j ∧ Hid (Below w2.heap.size wa wr) ∧ Hid (0 < m → ∃ g cs, A8 = some ⟨g, 0, none⟩ ∧ w7.heap.size ≤ g ∧ Blk wr g 37 cs ∧ m * 5 ≤ cs.size)) (fun i _ => m - (intOf i).toNat)
          case atStart => exact ⟨0, by omega, rfl, hbel.out, fun h => own_blk hoc.out h⟩
          case round =>
            clear hbel hoc
            obtain ⟨j, hj, rfl, hbel, hblk⟩ := hrel
            by_cases hlt2 : j < m
            · obtain ⟨g, cs, rfl, hg, hB, hcs⟩ := hblk.out (by omega)
              have hB : Hid (Blk wr g 37 cs) := hB
              have cell : ∀ i, i < 5 → ∃ u, wr.cell? ⟨g, j * 5 + i, none⟩ = some u := fun i hi => ⟨cs[j * 5 + i]'(by omega), by rw [hB.out.cell, Array.getElem?_eq_getElem]⟩
              obtain ⟨q0, C0⟩ := cell 0 (by omega)
              obtain ⟨q1, C1⟩ := cell 1 (by omega)
              obtain ⟨q2, C2⟩ := cell 2 (by omega)
              obtain ⟨q3, C3⟩ := cell 3 (by omega)
              obtain ⟨q4, C4⟩ := cell 4 (by omega)
              have F0 := hB.out.frozen (j * 5)
              have F1 := hB.out.frozen (j * 5 + 1)
              have F2 := hB.out.frozen (j * 5 + 2)
              have F3 := hB.out.frozen (j * 5 + 3)
              have F4 := hB.out.frozen (j * 5 + 4)
              rw [Nat.add_zero] at C0
              have j0' : (0 : Int) ≤ (j : Int) := by omega
              have j1 : (j : Int) < (m : Int) := by omega
              have hg2 : w2.heap.size ≤ g := by omega
              clear cell hblk
              go_wp2
              go_roundw
              case rel =>
                exact ⟨j + 1, by omega, by go_num, by unfold Hid; (repeat' (first | with_reducible exact hbel.out | (with_reducible refine Below.setCell ?_ (by first | (simp; omega) | simp | omega) _) | (with_reducible refine Below.alloc ?_ (by first | (simp; omega) | simp | omega) _) | with_reducible refine below_drewN ?_ _ | with_reducible refine Below.drew ?_)), fun _ => ⟨g, _, rfl, hg, ((((hB.out.set_ (j * 5) _).set_ (j * 5 + 1) _).set_ (j * 5 + 2) _).set_ (j * 5 + 3) _).set_ (j * 5 + 4) _, by simpa using hcs⟩⟩
              case measure => simp [intOf]; omega
            · obtain rfl : j = m := by omega
              have hbw : Hid (Below w.heap.size w wr) := hba.out.trans (hbel.out.mono hs2)
              have hsz : w2.heap.size ≤ wr.heap.size := Nat.le_trans hba'.out.size hbel.out.size
              have hxr : Hid (Reads wr wr.heap.size 2 x len0 (prs ps)) := (hxB.out.below hbel.out).more hsz
              have hyr : Hid (Reads wr wr.heap.size 5 y len1 (chs l)) := (hyB.out.below hbel.out).more hsz
              clear hblk hlt hlt2 hxB hyB
              go_wp2_with fail
              refine (counts_any l y len1 cy wr hyr (by omega)).mono ?_
              rintro e wc ht
              obtain ⟨rfl, hb⟩ := countOut ht
              obtain ⟨X1, hX1⟩ : ∃ K, (outN l).1 = K := ⟨_, rfl⟩
              obtain ⟨X2, hX2⟩ : ∃ K, (outN l).2.1 = K := ⟨_, rfl⟩
              obtain ⟨X3, hX3⟩ : ∃ K, (outN l).2.2.1 = K := ⟨_, rfl⟩
              obtain ⟨X4, hX4⟩ : ∃ K, (outN l).2.2.2 = K := ⟨_, rfl⟩
              have hX := Lib.hid (And.intro hX1 (And.intro hX2 (And.intro hX3 hX4)))
              rw [hX1, hX2, hX3, hX4]
              have hbc := below_on hbw hb
              have hxc := reads_on hxr hb
              have hyc := reads_on hyr hb
              clear hb ht hX1 hX2 hX3 hX4 hxr hyr hbw
              go_wp2_with fail
              refine (refcounts_any l a1 len1 cap1 wc (reads_on hr' hbc.out) (by omega)).mono ?_
              rintro e wd ht
              obtain ⟨rfl, hb⟩ := countOut ht
              rw [hX.out.1, hX.out.2.1, hX.out.2.2.1, hX.out.2.2.2]
              have hbd := below_on hbc hb
              have hxd := reads_on hxc hb
              have hyd := reads_on hyc hb
              have e1 : (X1 == X1) = true := by simp
              have e2 : (X2 == X2) = true := by simp
              have e3 : (X3 == X3) = true := by simp
              have e4 : (X4 == X4) = true := by simp
              clear hb ht hxc hyc hbc
              go_wp2_with fail
              refine (sameP ps x a0 len0 len0 cx cap0 wd hxd (reads_on hr hbd.out) (by omega)).mono ?_
              rintro e we ⟨rfl, hb⟩
              have hbe := below_on hbd hb
              have hye := reads_on hyd hb
              clear hb hxd hyd hbd
              go_wp2_with fail
              refine (sameC l y a1 len1 len1 cy cap1 we hye (reads_on hr' hbe.out) (by omega)).mono ?_
              rintro e wf ⟨rfl, hb⟩
              have hbf := below_on hbe hb
              clear hb
              go_wp2_with fail
              go_ret
              exact ⟨by simp, hbf.out⟩
end Go.Proofs.Ytlaocajjenfgpaa
