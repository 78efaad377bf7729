/- The law PlanThen, walked. -/
import Derived.Test.YtlaocajjenfgpaaRThen
import Derived.Test.YtlaocajjenfgpaaDelW
import Derived.Test.YtlaocajjenfgpaaSame
import Derived.Test.YtlaocajjenfgpaaOpenS
namespace Go.Proofs.Ytlaocajjenfgpaa
open Go Go.RowKit
set_option linter.unusedVariables false

/-- A row of structs that may be written: its block. -/
theorem own_blk {w : World} {base e size n c : Nat} {A : Option Addr} {xs : List Value} (h : w.ownsRow base e size (.slice A n c) n xs) (hn : 0 < n) :
    ∃ g cs, A = some ⟨g, 0, none⟩ ∧ base ≤ g ∧ Blk w g e cs ∧ n * size ≤ cs.size := by
  rcases h.2 with ⟨h0, h1⟩ | ⟨g, cap, cur, h0, hg, hh, hnc, hcap, hcur, hx⟩
  · omega
  · injection h0 with h1 h2 h3
    refine ⟨g, cur, h1, hg, hh, ?_⟩
    rw [hcur]
    exact Nat.mul_le_mul_right _ hnc

theorem thnIn_len (c : Chg) (f : List Chg → Option (List Chg)) (N : Nat) (hf : ∀ b r, f b = some r → r.length ≤ N + b.length) : ∀ b r, thnIn c f b = some r → r.length ≤ N + 1 + b.length
  | [], r, h => by
    unfold thnIn at h
    rcases hq : f [] with _ | q
    · rw [hq] at h; cases h
    · rw [hq] at h
      obtain rfl := Option.some.inj h
      have := hf [] q hq
      simp at this ⊢
      omega
  | d :: b, r, h => by
    rw [thnIn_cons] at h
    split at h
    · rcases hq : thnIn c f b with _ | q
      · rw [hq] at h; cases h
      · rw [hq] at h
        obtain rfl := Option.some.inj h
        have := thnIn_len c f N hf b q hq
        simp
        omega
    · split at h
      · split at h
        · rcases hq : f b with _ | q
          · rw [hq] at h; cases h
          · rw [hq] at h
            obtain rfl := Option.some.inj h
            have := hf b q hq
            dsimp only
            split
            · simp; omega
            · simp; omega
        · cases h
      · rcases hq : f (d :: b) with _ | q
        · rw [hq] at h; cases h
        · rw [hq] at h
          obtain rfl := Option.some.inj h
          have := hf (d :: b) q hq
          simp at this ⊢
          omega
theorem thn_len : ∀ a b r, thn a b = some r → r.length ≤ a.length + b.length
  | [], b, r, h => by
    obtain rfl := Option.some.inj h
    simp
  | c :: a, b, r, h => by
    have := thnIn_len c (thn a) a.length (fun b r => thn_len a b r) b r h
    simp
    omega

/-- What Then's list and its error are. -/
noncomputable def outT (a b : List Chg) : List Chg × Int :=
  open Classical in if Plan a ∧ Plan b then (match thn a b with | none => ([], 8) | some r => (r, 0)) else ([], 2)
theorem thenOut {a b : List Chg} {w : World} {e : Ending} {w' : World} (h : ThenEnd a b w e w') :
    (∃ A c, e = .returned (.tuple #[.slice A (outT a b).1.length c, .int .i64 (outT a b).2]) ∧ w'.ownsRow w.heap.size 37 5 (.slice A (outT a b).1.length c) (outT a b).1.length (chs (outT a b).1)) ∧ Below w.heap.size w w' := by
  obtain ⟨h1, h2, h3, hb⟩ := h
  refine ⟨?_, hb⟩
  unfold outT
  by_cases hp : Plan a ∧ Plan b
  · rw [if_pos hp]
    rcases ht : thn a b with _ | r
    · exact ⟨none, 0, h2 hp ht, World.ownsRow_nil _ _ _ _⟩
    · obtain ⟨A, c, he, ho⟩ := h3 hp r ht
      exact ⟨A, c, he, ho⟩
  · rw [if_neg hp]
    exact ⟨none, 0, h1 hp, World.ownsRow_nil _ _ _ _⟩
theorem outT_len (a b : List Chg) : (outT a b).1.length ≤ a.length + b.length := by
  unfold outT
  split
  · rcases ht : thn a b with _ | r
    · simp
    · exact thn_len a b r ht
  · simp

set_option maxRecDepth 100000 in
set_option maxHeartbeats 2000000 in
theorem then_law (a0 : Option Addr) (len0 cap0 : Nat) (l0 : List Chg) (a1 : Option Addr) (len1 cap1 : Nat) (l1 : List Chg) (w : World) (h0 : IsChanges w a0 len0 cap0 l0) (h1 : IsChanges w a1 len1 cap1 l1) :
    Calls Try.prog 4 #[.slice a0 len0 cap0, .slice a1 len1 cap1] w fun e w' => e = .returned (.bool true) ∧ Below w.heap.size w w' := by
  obtain ⟨i0, hi0, hz0, hz1, hz2⟩ := info_parts infoChg
  have hr : Hid (Reads w w.heap.size 5 a0 len0 (chs l0)) := h0.reads
  have hr' : Hid (Reads w w.heap.size 5 a1 len1 (chs l1)) := h1.reads
  have hm0 : len0 ≤ 9223372036854775807 := by have h1 := h0.le; have h2 := h0.cap; unfold maxLen at h2; omega
  have hm1 : len1 ≤ 9223372036854775807 := by have h2 := h1.le; have h3 := h1.cap; unfold maxLen at h3; omega
  clear h0 h1
  by_cases hbig : 60 < len0
  · have hd : decide ((60 : Int) < (len0 : Int)) = true := by simp; omega
    go_enter Try.func4, Try.ntmps4
    go_wp2_with fail
    refine (known_any _).mono ?_
    rintro e w1 ⟨rfl, hb⟩
    have hb1 := Lib.hid hb
    clear hb
    go_wp2_with fail
    go_ret
    exact ⟨rfl, hb1.out⟩
  · have hd : decide ((60 : Int) < (len0 : Int)) = false := by simp; omega
    by_cases hbig1 : 60 < len1
    · have hd1 : decide ((60 : Int) < (len1 : Int)) = true := by simp; omega
      go_enter Try.func4, Try.ntmps4
      go_wp2_with fail
      refine (known_any _).mono ?_
      rintro e w1 ⟨rfl, hb⟩
      have hb1 := Lib.hid hb
      clear hb
      go_wp2_with fail
      go_ret
      exact ⟨rfl, hb1.out⟩
    · have hd1 : decide ((60 : Int) < (len1 : Int)) = false := by simp; omega
      go_enter Try.func4, Try.ntmps4
      go_wp2_with (at_builtin; first
        | (refine wpList_append_any _ rfl (.tmp 21) (.tmp 22) 27 rfl w.heap.size 37 i0 _ 5 40 Try.underlying27 hi0 hz0 hz1 hz2 rfl (by decide) (.slice (some ⟨w.heap.size, 0, none⟩) 0 0) 0 [] rfl (own_lit w #[] 0 _ rfl (Nat.le_refl _) (Nat.zero_le _) rfl) w.heap.size a0 len0 cap0 (chs l0) rfl (hr.out.alloc (Nat.le_refl _) _) (chs_one _) (by unfold maxLen; omega) (by omega) (by simp) ?_
           intro v1 w1 hown1 hg1 hat1
           have hb1 : Hid (Below w.heap.size w w1) := ((Below.refl _ _).alloc (Nat.le_refl _) _).grown hg1 (by simp) (fun q hq => by simp [Value.ownBlock] at hq; omega)
           rw [Nat.zero_add, List.nil_append] at hown1
           obtain ⟨x, cx, rfl, hcx, hcx'⟩ := own_form hown1
           have hx : Hid (Reads w1 w1.heap.size 5 x len0 (chs l0)) := Reads.of_own hown1
           have hs1 := hb1.out.size
           clear hown1 hg1 hat1)
        | (refine wpList_append_any _ rfl (.tmp 24) (.tmp 25) 27 rfl w1.heap.size 37 i0 _ 5 40 Try.underlying27 hi0 hz0 hz1 hz2 rfl (by decide) (.slice (some ⟨w1.heap.size, 0, none⟩) 0 0) 0 [] rfl (own_lit w1 #[] 0 _ rfl (Nat.le_refl _) (Nat.zero_le _) rfl) w.heap.size a1 len1 cap1 (chs l1) rfl ((hr'.out.below hb1.out).alloc hs1 _) (chs_one _) (by unfold maxLen; omega) (by omega) (by simp) ?_
           intro v2 w2 hown2 hg2 hat2))
      have hb2' : Hid (Below w1.heap.size w1 w2) := ((Below.refl _ _).alloc (Nat.le_refl _) _).grown hg2 (by simp) (fun q hq => by simp [Value.ownBlock] at hq; omega)
      have hb2 : Hid (Below w.heap.size w w2) := hb1.out.trans (hb2'.out.mono hs1)
      rw [Nat.zero_add, List.nil_append] at hown2
      obtain ⟨y, cy, rfl, hcy, hcy'⟩ := own_form hown2
      unfold maxLen at hcx' hcy'
      have hy : Hid (Reads w2 w2.heap.size 5 y len1 (chs l1)) := Reads.of_own hown2
      have hx2 : Hid (Reads w2 w2.heap.size 5 x len0 (chs l0)) := (hx.out.below hb2'.out).more hb2'.out.size
      clear hown2 hg2 hat2 hx hb2' hb1
      go_wp2_with fail
      refine (then_any l0 l1 x y len0 len1 cx cy w2 hx2 hy (by omega) (by omega) hcy hcy').mono ?_
      rintro e w3 ht
      obtain ⟨⟨A3, c3, rfl, ho3⟩, hb⟩ := thenOut ht
      have hrl := outT_len l0 l1
      have hn0 := chs_n hr.out
      have hn1 := chs_n hr'.out
      rw [hn0, hn1] at hrl
      clear ht hn0 hn1
      have hb3' : Hid (Below w2.heap.size w2 w3) := hb
      have hb3 : Hid (Below w.heap.size w w3) := hb2.out.trans (hb.mono hb2.out.size)
      clear hb
      have hs23 := hb3'.out.size
      have hx3 : Hid (Reads w3 w2.heap.size 5 x len0 (chs l0)) := hx2.out.below hb3'.out
      have hy3 : Hid (Reads w3 w2.heap.size 5 y len1 (chs l1)) := hy.out.below hb3'.out
      have hs2 := hb2.out.size
      have hra : Hid (Reads w3 w3.heap.size 5 a0 len0 (chs l0)) := (hr.out.below hb3.out).more hb3.out.size
      have hrb : Hid (Reads w3 w3.heap.size 5 a1 len1 (chs l1)) := (hr'.out.below hb3.out).more hb3.out.size
      clear hx2 hy
      go_wp2_with fail
      refine (rthen_any l0 l1 a0 a1 len0 len1 cap0 cap1 w3 hra hrb (by omega) (by omega)).mono ?_
      rintro e w4 ht
      obtain ⟨⟨A4, c4, rfl, ho4⟩, hb⟩ := thenOut ht
      clear ht
      obtain ⟨r, hrr⟩ : ∃ r, (outT l0 l1).1 = r := ⟨_, rfl⟩
      obtain ⟨E, hE⟩ : ∃ E, (outT l0 l1).2 = E := ⟨_, rfl⟩
      rw [hrr] at ho3 ho4 hrl ⊢
      rw [hE]
      obtain ⟨n, hn⟩ : ∃ n, r.length = n := ⟨_, rfl⟩
      rw [hn] at ho3 ho4 hrl ⊢
      clear hrr hE hn
      have hb4 : Hid (Below w3.heap.size w3 w4) := hb
      have hs34 := hb.size
      have ho3 : Hid (w4.ownsRow w2.heap.size 37 5 (.slice A3 n c3) n (chs r)) := own_below ho3 hb
      have hc3 : Hid (Reads w4 w4.heap.size 5 A3 n (chs r)) := Reads.of_own ho3.out
      have hc4 : Hid (Reads w4 w4.heap.size 5 A4 n (chs r)) := Reads.of_own ho4
      have hb5 : Hid (Below w.heap.size w w4) := hb3.out.trans (hb.mono hb3.out.size)
      clear hb ho4
      go_wp2_with fail
      refine (sameC r A3 A4 n n c3 c4 w4 hc3 hc4 (by omega)).mono ?_
      rintro e w5 ⟨rfl, hb⟩
      have hs45 := hb.size
      have ho5 : Hid (w5.ownsRow w2.heap.size 37 5 (.slice A3 n c3) n (chs r)) := own_below ho3.out hb
      have hb6 : Hid (Below w.heap.size w w5) := hb5.out.trans (hb.mono hb5.out.size)
      have hb7 : Hid (Below w2.heap.size w2 w5) := (hb3'.out.trans (hb4.out.mono hs23)).trans (hb.mono (by omega))
      have hx5 : Hid (Reads w5 w2.heap.size 5 x len0 (chs l0)) := hx3.out.below ((hb4.out.mono hs23).trans (hb.mono (by omega)))
      have hy5 : Hid (Reads w5 w2.heap.size 5 y len1 (chs l1)) := hy3.out.below ((hb4.out.mono hs23).trans (hb.mono (by omega)))
      clear hb hx3 hy3 ho3 hc3 hc4 hra hrb hb5 hb4 hb3 hb3'
      have hEE : (E != E) = false := by simp
      go_wp2_with fail
      go_loopw [11] (fun i wr => ∃ k : Nat, k ≤ n ∧ i = .int .i64 k ∧ Hid (Below w2.heap.size w5 wr) ∧ Hid (0 < n → ∃ g cs, A3 = some ⟨g, 0, none⟩ ∧ w2.heap.size ≤ g ∧ Blk wr g 37 cs ∧ n * 5 ≤ cs.size)) (fun i _ => n - (intOf i).toNat)
      case atStart => exact ⟨0, by omega, rfl, Below.refl _ _, fun h => own_blk ho5.out h⟩
      case round =>
        obtain ⟨k, hk, rfl, hbel, hblk⟩ := hrel
        by_cases hlt : k < n
        · obtain ⟨g, cs, rfl, hg, hB, hcs⟩ := hblk.out (by omega)
          have hB : Hid (Blk wr g 37 cs) := hB
          have cell : ∀ j, j < 5 → ∃ u, wr.cell? ⟨g, k * 5 + j, none⟩ = some u := fun j hj => ⟨cs[k * 5 + j]'(by omega), by rw [hB.out.cell, Array.getElem?_eq_getElem]⟩
          obtain ⟨q0, C0⟩ := cell 0 (by omega)
          obtain ⟨q1, C1⟩ := cell 1 (by omega)
          obtain ⟨q2, C2⟩ := cell 2 (by omega)
          obtain ⟨q3, C3⟩ := cell 3 (by omega)
          obtain ⟨q4, C4⟩ := cell 4 (by omega)
          have F0 := hB.out.frozen (k * 5)
          have F1 := hB.out.frozen (k * 5 + 1)
          have F2 := hB.out.frozen (k * 5 + 2)
          have F3 := hB.out.frozen (k * 5 + 3)
          have F4 := hB.out.frozen (k * 5 + 4)
          rw [Nat.add_zero] at C0
          have j0 : (0 : Int) ≤ (k : Int) := by omega
          have j1 : (k : Int) < (n : Int) := by omega
          clear cell hblk
          go_wp2
          go_roundw
          case rel =>
            refine ⟨k + 1, by omega, by go_num, by unfold Hid; (repeat' (first | with_reducible exact hbel.out | (with_reducible refine Below.setCell ?_ (by first | (simp; omega) | simp | omega) _) | (with_reducible refine Below.alloc ?_ (by first | (simp; omega) | simp | omega) _) | with_reducible refine below_drewN ?_ _ | with_reducible refine Below.drew ?_)), fun _ => ⟨g, _, rfl, hg, ((((hB.out.set_ (k * 5) _).set_ (k * 5 + 1) _).set_ (k * 5 + 2) _).set_ (k * 5 + 3) _).set_ (k * 5 + 4) _, by simpa using hcs⟩⟩
          case measure => simp [intOf]; omega
        · obtain rfl : k = n := by omega
          have hsb := hbel.out.size
          have hbw : Hid (Below w.heap.size w wr) := hb6.out.trans (hbel.out.mono hs2)
          have hxr : Hid (Reads wr wr.heap.size 5 x len0 (chs l0)) := (hx5.out.below hbel.out).more (by omega)
          have hyr : Hid (Reads wr wr.heap.size 5 y len1 (chs l1)) := (hy5.out.below hbel.out).more (by omega)
          have har : Hid (Reads wr wr.heap.size 5 a0 len0 (chs l0)) := (hr.out.below hbw.out).more hbw.out.size
          have hbr : Hid (Reads wr wr.heap.size 5 a1 len1 (chs l1)) := (hr'.out.below hbw.out).more hbw.out.size
          clear hblk hx5 hy5 hr hr' ho5
          go_wp2_with fail
          refine (sameC l0 x a0 len0 len0 cx cap0 wr hxr har (by omega)).mono ?_
          rintro e w8 ⟨rfl, hb⟩
          have hb8 : Hid (Below w.heap.size w w8) := hbw.out.trans (hb.mono hbw.out.size)
          have hyr8 : Hid (Reads w8 w8.heap.size 5 y len1 (chs l1)) := (hyr.out.below hb).more hb.size
          have hbr8 : Hid (Reads w8 w8.heap.size 5 a1 len1 (chs l1)) := (hbr.out.below hb).more hb.size
          clear hb hyr hbr
          go_wp2_with fail
          refine (sameC l1 y a1 len1 len1 cy cap1 w8 hyr8 hbr8 (by omega)).mono ?_
          rintro e w9 ⟨rfl, hb⟩
          have hb9 : Hid (Below w.heap.size w w9) := hb8.out.trans (hb.mono hb8.out.size)
          clear hb
          go_wp2
          go_ret
          exact ⟨rfl, hb9.out⟩
end Go.Proofs.Ytlaocajjenfgpaa
