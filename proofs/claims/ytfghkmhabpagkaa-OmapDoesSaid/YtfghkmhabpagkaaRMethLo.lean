/- The reference's cut and methods once more: where the row lies; PutIfAbsent, CompareAndSwap (printed by gen_methlo.py). -/
import Derived.Test.YtfghkmhabpagkaaRSetLo
import Derived.Test.YtfghkmhabpagkaaOPut
namespace Go.Proofs.Ytfghkmhabpagkaa
open Go Go.RowKit
set_option linter.unusedVariables false

theorem LoR.le {w : World} {g B B' : Nat} (h : LoR w g B) (hb : B' ≤ B) : LoR w g B' := fun A n c hB ad e hn => Nat.le_trans hb (h A n c hB ad e hn)
def MapLo (g : Nat) (l : List Pr) (w w' : World) : Prop := MapEnd g l w w' ∧ LoR w' g w.heap.size
theorem MapLo.after {g : Nat} {m : List Pr} {w w1 w2 : World} (hb : Below w.heap.size w w1) (h : MapLo g m w1 w2) : MapLo g m w w2 := ⟨⟨h.1.1, (below_but hb g).trans h.1.2⟩, h.2.le hb.size⟩
theorem MapLo.of {g : Nat} {m : List Pr} {w w' : World} (h : MapEnd g m w w' ∧ LoR w' g (w.heap.size + 1)) : MapLo g m w w' := ⟨h.1, h.2.le (Nat.le_succ _)⟩
/-- What a call of the reference's map leaves. -/
def ROut (g : Nat) (l m : List Pr) (w w' : World) : Prop := (m = l ∧ Below w.heap.size w w') ∨ MapLo g m w w'
set_option maxRecDepth 100000 in
set_option maxHeartbeats 2000000 in
theorem cut_lo (l : List Pr) (g : Nat) (lo hi : Int) (w : World) (hm : Hid (IsM w g l)) :
    Calls Try.prog 42 #[.pointer (some ⟨g, 0, none⟩), .agg #[.int .u64 lo, .int .u64 hi]] w fun e w' => ∃ A c, e = .returned (.slice A (inR lo hi l).length c) ∧
      w'.ownsRow (w.heap.size + 1) 38 2 (.slice A (inR lo hi l).length c) (inR lo hi l).length (prs (inR lo hi l)) ∧ MapLo g (outR lo hi l) w w' := by
  obtain ⟨i0, hi0, hz0, hz1, hz2⟩ := info_parts infoPair
  obtain ⟨A, n, c, hB0, hr, hn, hc, hc'⟩ := hm.out
  have hr := Lib.hid hr
  have hlen := Lib.hid (prs_n hr.out)
  have hgw := hB0.lt
  have hB0 := Lib.hid hB0
  go_enter Try.func42, Try.ntmps42
  go_wp2_with fail
  go_loopw [5, 6, 7] (fun v u i wr => ∃ (k : Nat), k ≤ n ∧ i = .int .i64 k ∧ Hid (wr.ownsRow (w.heap.size + 1) 38 2 v (inR lo hi (l.take k)).length (prs (inR lo hi (l.take k)))) ∧ Hid (wr.ownsRow (w.heap.size + 1) 38 2 u (outR lo hi (l.take k)).length (prs (outR lo hi (l.take k)))) ∧ Hid (Apart v u) ∧ Hid (Below w.heap.size w wr) ∧ Hid (Blk wr w.heap.size 25 #[.int .u64 lo, .int .u64 hi])) (fun _ _ i _ => n - (intOf i).toNat)
  case atStart => exact ⟨0, by omega, rfl, World.ownsRow_nil _ _ _ _, World.ownsRow_nil _ _ _ _, fun q h => by simp [Value.ownBlock] at h, (Below.refl _ _).alloc (Nat.le_refl _) _, Blk.new w _ _⟩
  case round =>
    obtain ⟨k, hk, rfl, hown, hrow, hap, hbel, hB⟩ := hrel
    have hsz := Lib.hid hbel.out.size
    have hgl := hB.out.lt
    have L0 := hB.out.cell 0
    have L1 := hB.out.cell 1
    simp at L0 L1
    have hbg := Lib.hid (hB0.out.below hbel.out hgw)
    have hg := hbg.out.cell 0
    have hgf := hbg.out.frozen 0
    simp at hg
    have hgr : g < wr.heap.size := by omega
    by_cases hlt : k < n
    · obtain ⟨b, o, rfl, hbB⟩ := reads_head hr.out (by omega) (by decide)
      obtain ⟨p, hx, p0, p1⟩ := prs_at (hr.out.below hbel.out) hlt
      have hX := Lib.hid hx
      have hil : (inR lo hi (l.take k)).length ≤ k := Nat.le_trans (inR_le _ _ _) (List.length_take_le _ _)
      have hol : (outR lo hi (l.take k)).length ≤ k := Nat.le_trans (outR_le _ _ _) (List.length_take_le _ _)
      obtain ⟨is, his⟩ : ∃ is, inR lo hi (l.take k) = is := ⟨_, rfl⟩
      obtain ⟨os, hos⟩ : ∃ os, outR lo hi (l.take k) = os := ⟨_, rfl⟩
      rw [his] at hown hil
      rw [hos] at hrow hol
      have hIS := Lib.hid his
      have hOS := Lib.hid hos
      clear his hos
      obtain ⟨qk, qv⟩ := p
      dsimp only at p0 p1
      have j0 : (0 : Int) ≤ (k : Int) := by omega
      have j1 : (k : Int) < (n : Int) := by omega
      have hbw : b < wr.heap.size := by have := hsz.out; omega
      clear hx
      go_wp2_with fail
      go_still_tail 9, (by kernel_rfl)
      change wpList _ _ _ _ _ wr.drew
      go_wp2_with fail
      refine (has02_any lo hi qk _).mono ?_
      rintro e w3 ⟨rfl, hb⟩
      have hb3 : Hid (Below wr.heap.size wr w3) := (Below.refl _ _).drew.trans hb
      have hbel3 : Hid (Below w.heap.size w w3) := hbel.out.trans (hb3.out.mono hsz.out)
      have hown3 := Lib.hid (own_below hown.out hb3.out)
      have hrow3 := Lib.hid (own_below hrow.out hb3.out)
      have hB3 : Hid (Blk w3 w.heap.size 25 #[.int .u64 lo, .int .u64 hi]) := hB.out.below hb3.out hgl
      have hg3 := (hB0.out.below hbel3.out hgw).cell 0
      simp at hg3
      have hz3 := Lib.hid hbel3.out.size
      have q0 := (hb3.out.cell (p := ⟨b, o + k * 2, none⟩) hbw).trans p0
      have q1 := (hb3.out.cell (p := ⟨b, o + k * 2 + 1, none⟩) hbw).trans p1
      have hgr3 : g < w3.heap.size := by have := hz3.out; omega
      have hbw3 : b < w3.heap.size := by have := hz3.out; omega
      clear hb hb3 L0 L1 p0 p1 hg hgf hbg
      rcases hin : inB lo hi qk with _ | _
      · -- out of the range
        have hY := Lib.hid (outR_yes (lo := lo) (hi := hi) hX.out hin)
        have hN := Lib.hid (inR_no (lo := lo) (hi := hi) hX.out hin)
        clear hin
        go_wp2_with (at_builtin; refine wpList_append_any _ rfl (.tmp 37) (.tmp 45) 22 rfl (w.heap.size + 1) 38 i0 _ 2 16 Try.underlying22 hi0 hz0 hz1 hz2 rfl (by decide) u6 os.length (prs os) rfl (hrow3.out.alloc _) (w3.heap.size + 1) (some ⟨w3.heap.size, 0, none⟩) 1 1 (prC ⟨qk, qv⟩) rfl ((reads_at w3 _ (prC ⟨qk, qv⟩) 1 _ rfl rfl).more (by simp)) (prC_one _) (by unfold maxLen; omega) (by omega) (by have := hz3.out; simp; omega) ?_; intro v1 w4 hown1 hg1 hat1)
        have hne : u6.ownBlock ≠ some w.heap.size := fun h => by have := (hrow3.out.lt _ h).1; omega
        have hbel4 : Hid (Below w.heap.size w w4) := (hbel3.out.alloc hz3.out _).grown hg1 (by have := hz3.out; simp; omega) (fun q hq => by have := (hrow3.out.lt q hq).1; omega)
        have hrow4 : Hid (w4.ownsRow (w.heap.size + 1) 38 2 v1 (outR lo hi (l.take (k + 1))).length (prs (outR lo hi (l.take (k + 1))))) := by
          unfold Hid
          rw [hY.out, hOS.out, List.length_append]
          exact own_snocP hown1
        have hown4 : Hid (w4.ownsRow (w.heap.size + 1) 38 2 u5 (inR lo hi (l.take (k + 1))).length (prs (inR lo hi (l.take (k + 1))))) := by
          unfold Hid
          rw [hN.out, hIS.out]
          exact (hown3.out.alloc _).kept hg1 hap.out.symm.kept
        have hap4 : Hid (Apart u5 v1) := (Apart.grow hap.out.symm (hown3.out.alloc _) hat1).symm
        have hB4 : Hid (Blk w4 w.heap.size 25 #[.int .u64 lo, .int .u64 hi]) := (hB3.out.alloc _).grown hg1 (fun h => hne h.symm)
        clear hown1 hg1 hat1 hne
        go_wp2
        go_roundw
        case rel => exact ⟨k + 1, by omega, by go_num, hown4, hrow4, hap4, hbel4, hB4⟩
        case measure => simp [intOf]; omega
      · -- in the range
        have hY := Lib.hid (inR_yes (lo := lo) (hi := hi) hX.out hin)
        have hN := Lib.hid (outR_no (lo := lo) (hi := hi) hX.out hin)
        clear hin
        go_wp2_with (at_builtin; refine wpList_append_any _ rfl (.tmp 27) (.tmp 35) 22 rfl (w.heap.size + 1) 38 i0 _ 2 16 Try.underlying22 hi0 hz0 hz1 hz2 rfl (by decide) u5 is.length (prs is) rfl (hown3.out.alloc _) (w3.heap.size + 1) (some ⟨w3.heap.size, 0, none⟩) 1 1 (prC ⟨qk, qv⟩) rfl ((reads_at w3 _ (prC ⟨qk, qv⟩) 1 _ rfl rfl).more (by simp)) (prC_one _) (by unfold maxLen; omega) (by omega) (by have := hz3.out; simp; omega) ?_; intro v1 w4 hown1 hg1 hat1)
        have hne : u5.ownBlock ≠ some w.heap.size := fun h => by have := (hown3.out.lt _ h).1; omega
        have hbel4 : Hid (Below w.heap.size w w4) := (hbel3.out.alloc hz3.out _).grown hg1 (by have := hz3.out; simp; omega) (fun q hq => by have := (hown3.out.lt q hq).1; omega)
        have hown4 : Hid (w4.ownsRow (w.heap.size + 1) 38 2 v1 (inR lo hi (l.take (k + 1))).length (prs (inR lo hi (l.take (k + 1))))) := by
          unfold Hid
          rw [hY.out, hIS.out, List.length_append]
          exact own_snocP hown1
        have hrow4 : Hid (w4.ownsRow (w.heap.size + 1) 38 2 u6 (outR lo hi (l.take (k + 1))).length (prs (outR lo hi (l.take (k + 1))))) := by
          unfold Hid
          rw [hN.out, hOS.out]
          exact (hrow3.out.alloc _).kept hg1 hap.out.kept
        have hap4 : Hid (Apart v1 u6) := Apart.grow hap.out (hrow3.out.alloc _) hat1
        have hB4 : Hid (Blk w4 w.heap.size 25 #[.int .u64 lo, .int .u64 hi]) := (hB3.out.alloc _).grown hg1 (fun h => hne h.symm)
        clear hown1 hg1 hat1 hne
        go_wp2
        go_roundw
        case rel => exact ⟨k + 1, by omega, by go_num, hown4, hrow4, hap4, hbel4, hB4⟩
        case measure => simp [intOf]; omega
    · obtain rfl : k = n := by omega
      have htk : l.take k = l := List.take_of_length_le (by have := hlen.out; omega)
      rw [htk] at hown hrow
      obtain ⟨A3, c3, rfl, _⟩ := own_form hrow.out
      obtain ⟨A4, c4, rfl, _⟩ := own_form hown.out
      have hle := outR_le lo hi l
      have hLE : Hid ((outR lo hi l).length ≤ 1000000) := by have := hlen.out; unfold Hid; omega
      have hgo : Value.ownBlock (.slice A4 (inR lo hi l).length c4) ≠ some g := fun h => by have := (hown.out.lt _ h).1; omega
      have hGO := Lib.hid hgo
      clear htk hle hgo
      go_wp2_with fail
      go_ret
      exact ⟨A4, c4, rfl, hown.out.kept (but_set wr g _) (.inr hGO.out), ⟨isM_set hm.out hbel.out hrow.out hLE.out, (below_but hbel.out g).trans (but_set _ g _)⟩, (lo_set hm.out hbel.out hrow.out).le (Nat.le_succ _)⟩
set_option maxRecDepth 100000 in
set_option maxHeartbeats 2000000 in
theorem delR_lo (l : List Pr) (g : Nat) (lo hi : Int) (w : World) (hm : Hid (IsM w g l)) (h : ¬ hi < lo) :
    Calls Try.prog 50 #[.pointer (some ⟨g, 0, none⟩), .agg #[.int .u64 lo, .int .u64 hi]] w fun e w' => e = .returned (.tuple #[.int .i64 (inR lo hi l).length, .int .i64 0]) ∧ MapLo g (outR lo hi l) w w' := by
  have hd : decide (hi < lo) = false := by simpa using h
  have hm1 : Hid (IsM (w.alloc (.cells #[.int .u64 lo, .int .u64 hi] 25)) g l) := hm.out.below ((Below.refl _ _).alloc (Nat.le_refl _) _)
  clear h
  go_enter Try.func50, Try.ntmps50
  go_wp2_with fail
  refine (cut_lo l g lo hi _ hm1).mono ?_
  rintro e w2 ⟨A, c, rfl, _, hE⟩
  have hE2 : Hid (MapLo g (outR lo hi l) w w2) := MapLo.after ((Below.refl _ _).alloc (Nat.le_refl _) _) hE
  clear hE
  go_wp2_with fail
  go_ret2
  exact ⟨rfl, hE2.out⟩
set_option maxRecDepth 100000 in
set_option maxHeartbeats 2000000 in
theorem put_lo (l : List Pr) (g : Nat) (key val : Int) (w : World) (hm : Hid (IsM w g l)) (hl : l.length ≤ 900000) :
    Calls Try.prog 45 #[.pointer (some ⟨g, 0, none⟩), .int .u64 key, .int .u64 val] w fun e w' =>
      e = .returned (.tuple #[.int .u64 (val0 (look Pr.key l key)), .bool (look Pr.key l key).isSome, .int .i64 0]) ∧ MapLo g (setP ⟨key, val⟩ l) w w' := by
  obtain ⟨x, hx⟩ : ∃ x, val0 (look Pr.key l key) = x := ⟨_, rfl⟩
  obtain ⟨y, hy⟩ : ∃ y, (look Pr.key l key).isSome = y := ⟨_, rfl⟩
  rw [hx, hy]
  have hX := Lib.hid (And.intro hx hy)
  clear hx hy
  go_enter Try.func45, Try.ntmps45
  go_wp2_with fail
  refine (get_any l g key w hm).mono ?_
  rintro e w1 h
  obtain ⟨rfl, hb⟩ := getEnd_val h
  rw [hX.out.1, hX.out.2]
  have hm1 : Hid (IsM w1 g l) := hm.out.below hb
  have hb1 := Lib.hid hb
  clear h hb
  go_wp2_with fail
  refine (set_lo l g key val w1 hm1 hl).mono ?_
  rintro e w2 ⟨⟨v, rfl⟩, hE0⟩
  have hE := MapLo.of hE0
  have hE2 : Hid (MapLo g (setP ⟨key, val⟩ l) w w2) := MapLo.after hb1.out hE
  clear hE hE0
  go_wp2_with fail
  go_ret3
  exact ⟨rfl, hE2.out⟩
set_option maxRecDepth 100000 in
set_option maxHeartbeats 2000000 in
theorem del_lo (l : List Pr) (g : Nat) (key : Int) (w : World) (hm : Hid (IsM w g l)) :
    Calls Try.prog 47 #[.pointer (some ⟨g, 0, none⟩), .int .u64 key] w fun e w' =>
      e = .returned (.tuple #[.int .u64 (val0 (look Pr.key l key)), .bool (look Pr.key l key).isSome, .int .i64 0]) ∧ MapLo g (outR key key l) w w' := by
  obtain ⟨x, hx⟩ : ∃ x, val0 (look Pr.key l key) = x := ⟨_, rfl⟩
  obtain ⟨y, hy⟩ : ∃ y, (look Pr.key l key).isSome = y := ⟨_, rfl⟩
  rw [hx, hy]
  have hX := Lib.hid (And.intro hx hy)
  clear hx hy
  go_enter Try.func47, Try.ntmps47
  go_wp2_with fail
  refine (get_any l g key w hm).mono ?_
  rintro e w1 h
  obtain ⟨rfl, hb⟩ := getEnd_val h
  rw [hX.out.1, hX.out.2]
  have hm1 : Hid (IsM w1 g l) := hm.out.below hb
  have hb1 := Lib.hid hb
  clear h hb
  go_wp2_with fail
  refine (cut_lo l g key key w1 hm1).mono ?_
  rintro e w2 ⟨A, c, rfl, _, hE⟩
  have hE2 : Hid (MapLo g (outR key key l) w w2) := MapLo.after hb1.out hE
  clear hE
  go_wp2_with fail
  go_ret3
  exact ⟨rfl, hE2.out⟩
set_option maxRecDepth 100000 in
set_option maxHeartbeats 2000000 in
theorem mmove_lo (l : List Pr) (g : Nat) (lo hi by_ : Int) (w : World) (hm : Hid (IsM w g l)) (hl : l.length ≤ 400000) (h : ¬ (hi < lo ∨ by_ = 0)) (h2 : ¬ 18446744073709551615 - hi < by_)
    (hw : ∀ p ∈ l, (Lit.int .u64 p.key).wf = true ∧ (Lit.int .u64 p.val).wf = true) (whi : (Lit.int .u64 hi).wf = true) (wby : (Lit.int .u64 by_).wf = true) :
    Calls Try.prog 49 #[.pointer (some ⟨g, 0, none⟩), .agg #[.int .u64 lo, .int .u64 hi], .int .u64 by_] w fun e w' => e = .returned (.tuple #[.int .i64 (inR lo hi l).length, .int .i64 0]) ∧ MapLo g (moved lo hi by_ l) w w' := by
  have hd : decide (hi < lo) = false := by simp; omega
  have hd2 : (by_ == 0) = false := by simp; omega
  have hhi := bounds_u64 whi
  have hby := bounds_u64 wby
  have hbd := Lib.hid (show ∀ q ∈ inR lo hi l, 0 ≤ q.key + by_ ∧ q.key + by_ ≤ 18446744073709551615 from fun q hq => by
    have h1 := in_bd (by_ := by_) hq
    have h3 := bounds_u64 (hw q (List.mem_filter.1 hq).1).1
    omega)
  obtain ⟨M, hM⟩ : ∃ M : Int, IntKind.u64.wrap (18446744073709551615 - hi) = M := ⟨_, rfl⟩
  have hd3 : decide (M < by_) = false := by
    have : M = 18446744073709551615 - hi := by rw [← hM, IntWalk.u64_in _ (by omega)]
    simp; omega
  have hgw := hm.out.lt
  have hm1 : Hid (IsM (w.alloc (.cells #[.int .u64 lo, .int .u64 hi] 25)) g l) := hm.out.below ((Below.refl _ _).alloc (Nat.le_refl _) _)
  clear h h2 whi wby hhi hby hw
  go_enter Try.func49, Try.ntmps49
  go_wp2_with fail
  refine (cut_lo l g lo hi _ hm1).mono ?_
  rintro e w2 ⟨A, c, rfl, ho, hE⟩
  have hE2 : Hid (MapLo g (outR lo hi l) w w2) := MapLo.after ((Below.refl _ _).alloc (Nat.le_refl _) _) hE
  have hl1 := inR_le lo hi l
  have hl2 := outR_le lo hi l
  have hmv : Hid (moved lo hi by_ l = puts (outR lo hi l) ((inR lo hi l).map (shP by_))) := rfl
  have ho : Hid (w2.ownsRow (w.heap.size + 1) 38 2 (.slice A (inR lo hi l).length c) (inR lo hi l).length (prs (inR lo hi l))) := own_base ho (by simp)
  obtain ⟨ms, hms⟩ : ∃ ms, inR lo hi l = ms := ⟨_, rfl⟩
  obtain ⟨os, hos⟩ : ∃ os, outR lo hi l = os := ⟨_, rfl⟩
  have hInL : Hid ((inR lo hi l).length = ms.length) := by unfold Hid; rw [hms]
  rw [hms] at hbd hl1 hmv ho ⊢
  rw [hos] at hl2 hmv hE2
  clear hE hms hos hm1 hd hd2 hd3 hM
  obtain ⟨I, hI⟩ : ∃ I, ms.length = I := ⟨_, rfl⟩
  rw [hI] at hl1 ho ⊢
  have hIL := Lib.hid hI
  clear hI
  have hng : Hid (Value.ownBlock (.slice A I c) ≠ some g) := fun h => by have := (ho.out.lt _ h).1; omega
  go_wp2_with fail
  go_loopw [9] (fun i wr => ∃ k : Nat, k ≤ I ∧ i = .int .i64 k ∧ Hid (MapLo g (puts os ((ms.map (shP by_)).take k)) w wr) ∧ Hid (wr.ownsRow (w.heap.size + 1) 38 2 (.slice A I c) I (prs ms))) (fun i _ => I - (intOf i).toNat)
  case atStart => exact ⟨0, by omega, rfl, hE2.out, ho.out⟩
  case round =>
    clear hE2 ho
    obtain ⟨k, hk, rfl, hE, ho⟩ := hrel
    have j0 : (0 : Int) ≤ (k : Int) := by omega
    by_cases hlt : k < I
    · have hrr := Lib.hid (Reads.of_own ho.out)
      obtain ⟨b, o, rfl, hbB⟩ := reads_head hrr.out (by omega) (by decide)
      obtain ⟨p, hx, p0, p1⟩ := prs_at hrr.out hlt
      have hst := Lib.hid (puts_step (base := os) (sh_get (by_ := by_) hx))
      have hb := hbd.out p (List.mem_of_getElem? hx)
      obtain ⟨mk, mw⟩ := p
      dsimp only at p0 p1 hb
      obtain ⟨tk, htk⟩ : ∃ tk : Int, IntKind.u64.wrap (mk + by_) = tk := ⟨_, rfl⟩
      have htv : Hid (shP by_ ⟨mk, mw⟩ = ⟨tk, mw⟩) := by
        unfold Hid shP
        rw [← htk, IntWalk.u64_in _ hb]
      rw [htv.out] at hst
      have j1 : (k : Int) < (I : Int) := by omega
      have hpl : (puts os ((ms.map (shP by_)).take k)).length ≤ 900000 := by
        have h1 := puts_len ((ms.map (shP by_)).take k) os
        have h2 : ((ms.map (shP by_)).take k).length ≤ k := List.length_take_le _ _
        omega
      have hm2 : Hid (IsM wr.drew g (puts os ((ms.map (shP by_)).take k))) := hE.out.1.1.below (Below.refl _ _).drew
      clear hx hb
      go_wp2_with fail
      go_still_tail 14, (by kernel_rfl)
      change wpList _ _ _ _ _ wr.drew
      go_wp2_with fail
      refine (set_lo _ g tk mw wr.drew hm2 hpl).mono ?_
      rintro e w3 ⟨⟨v, rfl⟩, hE30⟩
      have hE3 := MapLo.of hE30
      have hE4 : Hid (MapLo g (puts os ((ms.map (shP by_)).take (k + 1))) w w3) := by
        unfold Hid
        rw [hst.out]
        exact ⟨⟨hE3.1.1, hE.out.1.2.trans ((below_but (Below.refl _ _).drew g).trans hE3.1.2)⟩, hE3.2.le hE.out.1.2.size⟩
      have ho4 : Hid (w3.ownsRow (w.heap.size + 1) 38 2 (.slice (some ⟨b, o, none⟩) I c) I (prs ms)) := ho.out.drew.kept hE3.1.2 (.inr hng.out)
      clear hE3 hE30
      go_wp2_with fail
      go_roundw
      case rel => exact ⟨k + 1, by omega, by go_num, hE4, ho4⟩
      case measure => simp [intOf]; omega
    · obtain rfl : k = I := by omega
      have hE4 : Hid (MapLo g (moved lo hi by_ l) w wr) := by
        unfold Hid
        rw [hmv.out]
        have := hE.out
        rwa [List.take_of_length_le (by rw [List.length_map, hIL.out]; exact Nat.le_refl _)] at this
      go_wp2_with fail
      go_ret2
      exact ⟨by rw [hInL.out, hIL.out]; rfl, hE4.out⟩
set_option maxHeartbeats 2000000 in
theorem rpif_any (l : List Pr) (g : Nat) (key val : Int) (w : World) (hm : Hid (IsM w g l)) (hl : l.length ≤ 900000) :
    Calls Try.prog 46 #[.pointer (some ⟨g, 0, none⟩), .int .u64 key, .int .u64 val] w fun e w' =>
      e = .returned (.tuple #[.int .u64 (val0 (look Pr.key l key)), .bool (look Pr.key l key).isSome, .int .i64 0]) ∧ ROut g l (pifL l key val) w w' := by
  have hc := (get_any l g key w hm).mono fun e w' h => getEnd_val h
  unfold pifL
  obtain ⟨x, hx⟩ : ∃ x, val0 (look Pr.key l key) = x := ⟨_, rfl⟩
  obtain ⟨b, hbb⟩ : ∃ b, (look Pr.key l key).isSome = b := ⟨_, rfl⟩
  rw [hx, hbb] at hc ⊢
  clear hx hbb
  cases b with
  | true =>
    rw [if_pos rfl]
    go_enter Try.func46, Try.ntmps46
    go_wp2_with fail
    refine hc.mono ?_
    rintro e w1 ⟨rfl, hb⟩
    have hb1 := Lib.hid hb
    clear hc hb
    go_wp2_with fail
    go_ret3
    exact ⟨rfl, .inl ⟨rfl, hb1.out⟩⟩
  | false =>
    rw [if_neg (by decide)]
    go_enter Try.func46, Try.ntmps46
    go_wp2_with fail
    refine hc.mono ?_
    rintro e w1 ⟨rfl, hb⟩
    have hb1 := Lib.hid hb
    have hm1 : Hid (IsM w1 g l) := hm.out.below hb
    clear hc hb
    go_wp2_with fail
    refine (set_lo l g key val w1 hm1 hl).mono ?_
    rintro e w2 ⟨⟨v, rfl⟩, hE0⟩
    have hE2 : Hid (MapLo g (setP ⟨key, val⟩ l) w w2) := MapLo.after hb1.out (MapLo.of hE0)
    clear hE0
    go_wp2_with fail
    go_ret3
    exact ⟨rfl, .inr hE2.out⟩
set_option maxHeartbeats 2000000 in
theorem rcas_any (l : List Pr) (g : Nat) (key old val : Int) (w : World) (hm : Hid (IsM w g l)) (hl : l.length ≤ 900000) :
    Calls Try.prog 48 #[.pointer (some ⟨g, 0, none⟩), .int .u64 key, .int .u64 old, .int .u64 val] w fun e w' =>
      e = .returned (.tuple #[.int .u64 (val0 (look Pr.key l key)), .bool (look Pr.key l key).isSome, .bool ((look Pr.key l key).isSome && decide (val0 (look Pr.key l key) = old)), .int .i64 0]) ∧
        ROut g l (if ((look Pr.key l key).isSome && decide (val0 (look Pr.key l key) = old)) = true then setP ⟨key, val⟩ l else l) w w' := by
  have hc := (get_any l g key w hm).mono fun e w' h => getEnd_val h
  obtain ⟨x, hx⟩ : ∃ x, val0 (look Pr.key l key) = x := ⟨_, rfl⟩
  obtain ⟨b, hbb⟩ : ∃ b, (look Pr.key l key).isSome = b := ⟨_, rfl⟩
  rw [hx, hbb] at hc ⊢
  clear hx hbb
  cases b with
  | false =>
    rw [Bool.false_and, if_neg (by decide)]
    go_enter Try.func48, Try.ntmps48
    go_wp2_with fail
    refine hc.mono ?_
    rintro e w1 ⟨rfl, hb⟩
    have hb1 := Lib.hid hb
    clear hc hb
    go_wp2_with fail
    refine bodyPost_ret (results_tmp4 rfl _ _ _) rfl ?_
    exact ⟨rfl, .inl ⟨rfl, hb1.out⟩⟩
  | true =>
    rw [Bool.true_and]
    by_cases ho : x = old
    · subst ho
      have hd2 : (x != x) = false := by simp
      rw [decide_eq_true rfl, if_pos rfl]
      go_enter Try.func48, Try.ntmps48
      go_wp2_with fail
      refine hc.mono ?_
      rintro e w1 ⟨rfl, hb⟩
      have hb1 := Lib.hid hb
      have hm1 : Hid (IsM w1 g l) := hm.out.below hb
      clear hc hb
      go_wp2_with fail
      refine (set_lo l g key val w1 hm1 hl).mono ?_
      rintro e w2 ⟨⟨v, rfl⟩, hE0⟩
      have hE2 : Hid (MapLo g (setP ⟨key, val⟩ l) w w2) := MapLo.after hb1.out (MapLo.of hE0)
      clear hE0
      go_wp2_with fail
      refine bodyPost_ret (results_tmp4 rfl _ _ _) rfl ?_
      exact ⟨rfl, .inr hE2.out⟩
    · have hd := decide_eq_false ho
      have hd2 : (x != old) = true := by simpa using ho
      rw [hd, if_neg (by decide)]
      go_enter Try.func48, Try.ntmps48
      go_wp2_with fail
      refine hc.mono ?_
      rintro e w1 ⟨rfl, hb⟩
      have hb1 := Lib.hid hb
      clear hc hb
      go_wp2_with fail
      refine bodyPost_ret (results_tmp4 rfl _ _ _) rfl ?_
      exact ⟨rfl, .inl ⟨rfl, hb1.out⟩⟩
end Go.Proofs.Ytfghkmhabpagkaa
