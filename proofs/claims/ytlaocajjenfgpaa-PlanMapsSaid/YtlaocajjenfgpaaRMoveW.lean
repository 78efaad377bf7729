/- The reference's Move and Delete, walked (printed by gen_rmovew.py). -/
import Derived.Test.YtlaocajjenfgpaaRMove
namespace Go.Proofs.Ytlaocajjenfgpaa
open Go Go.RowKit
set_option linter.unusedVariables false

/-- An owned list of numbers, one longer. -/
theorem own_snocU {w : World} {base n : Nat} {v : Value} {os : List Int} {x : Int} (h : w.ownsRow base 23 1 v (n + 1) (us os ++ [.int .u64 x])) : w.ownsRow base 23 1 v (n + 1) (us (os ++ [x])) := by
  rw [us_append, us_one]
  exact h

set_option maxRecDepth 100000 in
set_option maxHeartbeats 4000000 in
theorem rmove_any (ps : List Pr) (A : Option Addr) (n c : Nat) (lo hi by_ : Int) (w : World) (hr : Hid (Reads w w.heap.size 2 A n (prs ps))) (hn : n ≤ 100000)
    (hw : ∀ p ∈ ps, (Lit.int .u64 p.key).wf = true ∧ (Lit.int .u64 p.val).wf = true) (whi : (Lit.int .u64 hi).wf = true) (wby : (Lit.int .u64 by_).wf = true) (hc : n ≤ c ∧ c ≤ 9223372036854775807) :
    Calls Try.prog 13 #[.slice A n c, .agg #[.int .u64 lo, .int .u64 hi], .int .u64 by_] w (ChgEnd (outM lo hi by_ ps) w) := by
  obtain ⟨i0, hi0, hz0, hz1, hz2⟩ := info_parts infoPair
  obtain ⟨j0', hj0, hy0, hy1, hy2⟩ := info_parts infoU64
  have hlen := Lib.hid (prs_n hr.out)
  have hC := Lib.hid hc
  have hW := Lib.hid hw
  have hWF := Lib.hid (And.intro whi wby)
  have hBD : Hid (¬ (hi < lo ∨ by_ = 0) → ¬ 18446744073709551615 - hi < by_ → ∀ q ∈ ps, inB lo hi q.key = true → 0 ≤ q.key + by_ ∧ q.key + by_ ≤ 18446744073709551615) := fun h h2 q hq hb => by
    have h1 := in_bd (by_ := by_) (List.mem_filter.2 ⟨hq, hb⟩ : q ∈ inR lo hi ps)
    have h3 := bounds_u64 (hw q hq).1
    have h4 := bounds_u64 whi
    have h5 := bounds_u64 wby
    omega
  clear hw whi wby hc
  go_enter Try.func13, Try.ntmps13
  go_wp2_with fail
  refine (ascR_any ps A n c _ ((hr.out.alloc (Nat.le_refl _) _).more (by simp)) (by omega)).mono ?_
  rintro e w1 ⟨h1, h2, hb⟩
  have hb1 : Hid (Below w.heap.size w w1) := ((Below.refl _ _).alloc (Nat.le_refl _) _).trans (hb.mono (by simp))
  have hk1 : Hid (Blk w1 w.heap.size 25 #[.int .u64 lo, .int .u64 hi]) := (Blk.new w _ _).below hb (by simp)
  have hs1 : Hid (w.heap.size < w1.heap.size) := by have := hb.size; simp at this; unfold Hid; omega
  clear hb
  by_cases hp : Asc ps
  · obtain rfl := h1 hp
    have hP := Lib.hid hp
    clear h1 h2 hp
    go_wp2_with (
      at_builtin
      refine wpList_append_any _ rfl (.tmp 17) (.tmp 18) 22 rfl w1.heap.size 47 i0 _ 2 16 Try.underlying22 hi0 hz0 hz1 hz2 rfl (by decide) (.slice (some ⟨w1.heap.size, 0, none⟩) 0 0) 0 [] rfl (own_lit w1 #[] 0 _ rfl (Nat.le_refl _) (Nat.zero_le _) rfl) w.heap.size A n c (prs ps) rfl ((hr.out.below hb1.out).alloc hb1.out.size _) (prs_one _) (by unfold maxLen; omega) (by omega) (by simp) ?_
      intro v2 w2 hown2 hg2 hat2
      rw [Nat.zero_add, List.nil_append] at hown2
      obtain ⟨A2, c2, rfl, hc2, hc2'⟩ := own_form hown2
      unfold maxLen at hc2'
      have hb2' : Hid (Below w1.heap.size w1 w2) := ((Below.refl _ _).alloc (Nat.le_refl _) _).grown hg2 (by simp) (fun q hq => by simp [Value.ownBlock] at hq; omega)
      have hb2 : Hid (Below w.heap.size w w2) := hb1.out.trans (hb2'.out.mono hb1.out.size)
      have hk2 : Hid (Blk w2 w.heap.size 25 #[.int .u64 lo, .int .u64 hi]) := hk1.out.below hb2'.out hs1.out
      have hs2 : w.heap.size < w2.heap.size := Nat.lt_of_lt_of_le hs1.out hb2'.out.size
      have hm2 : Hid (IsM (w2.alloc (.cells #[.slice A2 n c2] 72)) w2.heap.size ps) := ⟨A2, n, c2, Blk.new w2 _ _, ((Reads.of_own hown2).alloc (Nat.le_refl _) _).more (by simp), by omega, hc2, hc2'⟩
      have L0 := hk2.out.cell 0
      have L1 := hk2.out.cell 1
      simp at L0 L1
      clear hown2 hg2 hat2 hb1 hb2' hk1 hs1)
    go_wp2_with fail
    by_cases hbad : hi < lo ∨ by_ = 0
    · refine (mmove_bad ps w2.heap.size lo hi by_ _ hbad).mono ?_
      rintro e w3 ⟨rfl, hb⟩
      have hb3 : Hid (Below w.heap.size w w3) := (hb2.out.alloc (Nat.le_of_lt hs2) _).trans (hb.mono (by simp; omega))
      have hE : Hid (outM lo hi by_ ps = ([], 13)) := by
        unfold Hid
        by_cases hlh : hi < lo
        · exact outM_bad hP.out hlh
        · obtain rfl : by_ = 0 := by omega
          exact outM_zero hP.out (by omega)
      clear hb hbad L0 L1
      go_wp2_with fail
      go_ret2
      rw [hE.out]
      exact chgEnd_nil hb3.out
    · by_cases hov : 18446744073709551615 - hi < by_
      · refine (mmove_over ps w2.heap.size lo hi by_ _ hbad hov hWF.out.1).mono ?_
        rintro e w3 ⟨rfl, hb⟩
        have hb3 : Hid (Below w.heap.size w w3) := (hb2.out.alloc (Nat.le_of_lt hs2) _).trans (hb.mono (by simp; omega))
        have hE : Hid (outM lo hi by_ ps = ([], 12)) := outM_over hP.out (by omega) (by omega) hov
        clear hb hbad hov L0 L1
        go_wp2_with fail
        go_ret2
        rw [hE.out]
        exact chgEnd_nil hb3.out
      · refine (mmove_ok ps w2.heap.size lo hi by_ _ hm2 (by rw [hlen.out]; omega) hbad hov hW.out hWF.out.1 hWF.out.2).mono ?_
        rintro e wm ⟨rfl, hIM, hM⟩
        have hE : Hid (outM lo hi by_ ps = (mv lo hi ((inR lo hi ps).map (shP by_)) ps, 0)) := outM_ok hP.out (by omega) (by omega) hov
        have hbd := Lib.hid (hBD.out hbad (by omega))
        have hMV := Lib.hid (rmove_mv (lo := lo) (hi := hi) (by_ := by_) hP.out)
        have hbm : Hid (Below w.heap.size w wm) := below_map (hb2.out.alloc (Nat.le_of_lt hs2) _) hM (by simp; omega) (Nat.le_of_lt hs2)
        have hkm : Hid (Blk wm w.heap.size 25 #[.int .u64 lo, .int .u64 hi]) := (hk2.out.alloc _).grown hM (by simp; omega)
        have hsm : Hid (w.heap.size < wm.heap.size) := by have := hM.size; simp at this; unfold Hid; omega
        have hgm : Hid (w2.heap.size < wm.heap.size) := by have := hM.size; simp at this; unfold Hid; omega
        have hrm : Hid (Reads wm wm.heap.size 2 A n (prs ps)) := (hr.out.below hbm.out).more (Nat.le_of_lt hsm.out)
        have hIM := Lib.hid hIM
        clear hM hm2 hbad hov L0 L1 hk2 hb2
        go_wp2_with fail
        go_loopw [11, 12, 13] (fun v u i wr => ∃ k : Nat, k ≤ n ∧ i = .int .i64 k ∧ Hid (wr.ownsRow wm.heap.size 23 1 v (keysP (inR lo hi (ps.take k))).length (us (keysP (inR lo hi (ps.take k))))) ∧ Hid (wr.ownsRow wm.heap.size 23 1 u (keysP ((inR lo hi (ps.take k)).map (shP by_))).length (us (keysP ((inR lo hi (ps.take k)).map (shP by_))))) ∧ Hid (Apart v u) ∧ Hid (Below wm.heap.size wm wr)) (fun _ _ i _ => n - (intOf i).toNat)
        case atStart => exact ⟨0, by omega, rfl, World.ownsRow_nil _ _ _ _, World.ownsRow_nil _ _ _ _, fun q h => by simp [Value.ownBlock] at h, Below.refl _ _⟩
        case round =>
          obtain ⟨k, hk, rfl, hown, hrow, hap, hbel⟩ := hrel
          have hsz := Lib.hid hbel.out.size
          have hB := Lib.hid (hkm.out.below hbel.out hsm.out)
          have hgl := hB.out.lt
          have L0 := hB.out.cell 0
          have L1 := hB.out.cell 1
          simp at L0 L1
          by_cases hlt : k < n
          · obtain ⟨b, o, rfl, hbB⟩ := reads_head hrm.out (by omega) (by decide)
            obtain ⟨p, hx, p0, p1⟩ := prs_at (hrm.out.below hbel.out) hlt
            have hX := Lib.hid hx
            have hil : (keysP (inR lo hi (ps.take k))).length ≤ k := by rw [keysP_len]; exact Nat.le_trans (inR_le _ _ _) (List.length_take_le _ _)
            have hol : (keysP ((inR lo hi (ps.take k)).map (shP by_))).length ≤ k := by rw [keysP_len, List.length_map]; exact Nat.le_trans (inR_le _ _ _) (List.length_take_le _ _)
            have hbq := Lib.hid (hbd.out p (List.mem_of_getElem? hx))
            obtain ⟨os, hos⟩ : ∃ os, keysP ((inR lo hi (ps.take k)).map (shP by_)) = os := ⟨_, rfl⟩
            rw [hos] at hrow hol
            have hOS := Lib.hid hos
            clear hos
            obtain ⟨is, his⟩ : ∃ is, keysP (inR lo hi (ps.take k)) = is := ⟨_, rfl⟩
            rw [his] at hown hil
            have hIS := Lib.hid his
            clear his
            obtain ⟨qk, qv⟩ := p
            dsimp only at p0 p1
            have j0 : (0 : Int) ≤ (k : Int) := by omega
            have j1 : (k : Int) < (n : Int) := by omega
            have hbw : b < wr.heap.size := by have := hsz.out; omega
            clear hx
            go_wp2_with fail
            go_still_tail 6, (by kernel_rfl)
            change wpList _ _ _ _ _ wr.drew
            go_wp2_with fail
            refine (has02_any lo hi qk _).mono ?_
            rintro e w3 ⟨rfl, hb⟩
            have hb3 : Hid (Below wr.heap.size wr w3) := (Below.refl _ _).drew.trans hb
            have hbel3 : Hid (Below wm.heap.size wm w3) := hbel.out.trans (hb3.out.mono hsz.out)
            have hown3 := Lib.hid (own_below hown.out hb3.out)
            have hrow3 := Lib.hid (own_below hrow.out hb3.out)
            have hz3 := Lib.hid hbel3.out.size
            have q0 := (hb3.out.cell (p := ⟨b, o + k * 2, none⟩) hbw).trans p0
            have hbw3 : b < w3.heap.size := by have := hz3.out; omega
            clear hb hb3 L0 L1 p0 p1
            rcases hin : inB lo hi qk with _ | _
            · have hY : Hid (keysP (inR lo hi (ps.take (k + 1))) = is) := by unfold Hid; rw [inR_no hX.out hin]; exact hIS.out
              have hZ : Hid (keysP ((inR lo hi (ps.take (k + 1))).map (shP by_)) = os) := by unfold Hid; rw [inR_no hX.out hin]; exact hOS.out
              clear hin
              go_wp2_with fail
              go_roundw
              case rel => exact ⟨k + 1, by omega, by go_num, by rw [hY.out]; exact hown3, by rw [hZ.out]; exact hrow3, hap, hbel3⟩
              case measure => simp [intOf]; omega
            · have hY := Lib.hid (keysIn_yes hX.out hin)
              have hZ := Lib.hid (keysSh_yes (by_ := by_) hX.out hin)
              have hq := hbq.out hin
              obtain ⟨tk, htk⟩ : ∃ tk : Int, IntKind.u64.wrap (qk + by_) = tk := ⟨_, rfl⟩
              have htv : Hid (qk + by_ = tk) := by
                unfold Hid
                rw [← htk, IntWalk.u64_in _ hq]
              clear hin hq
              go_wp2_with (at_builtin; first
                | (refine wpList_append_any _ rfl (.tmp 45) (.tmp 51) 73 rfl (wm.heap.size) 23 j0' _ 1 8 Try.underlying73 hj0 hy0 hy1 hy2 rfl (by decide) u11 is.length (us is) rfl (hown3.out.alloc _) (w3.heap.size + 1) (some ⟨w3.heap.size, 0, none⟩) 1 1 [.int .u64 qk] rfl ((reads_at w3 _ [.int .u64 qk] 1 _ rfl rfl).more (by simp)) (u_one _) (by unfold maxLen; omega) (by omega) (by have := hz3.out; simp; omega) ?_
                   intro v1 w4 hown1 hg1 hat1
                   have hbel4 : Hid (Below wm.heap.size wm w4) := (hbel3.out.alloc hz3.out _).grown hg1 (by have := hz3.out; simp; omega) (fun q hq => (hown3.out.lt q hq).1)
                   have hown4 : Hid (w4.ownsRow wm.heap.size 23 1 v1 (keysP (inR lo hi (ps.take (k + 1)))).length (us (keysP (inR lo hi (ps.take (k + 1)))))) := by
                     unfold Hid
                     rw [hY.out, hIS.out, List.length_append]
                     exact own_snocU hown1
                   have hrow4 : Hid (w4.ownsRow wm.heap.size 23 1 u12 os.length (us os)) := (hrow3.out.alloc _).kept hg1 hap.out.kept
                   have hap4 : Hid (Apart v1 u12) := Apart.grow hap.out (hrow3.out.alloc _) hat1
                   have hz4 := Lib.hid hbel4.out.size
                   have r0 := (hbel4.out.cell (p := ⟨b, o + k * 2, none⟩) hbB).trans ((hbel3.out.cell (p := ⟨b, o + k * 2, none⟩) hbB).symm.trans q0)
                   have hbw4 : b < w4.heap.size := by have := hz4.out; omega
                   clear hown1 hg1 hat1 q0)
                | (refine wpList_append_any _ rfl (.tmp 53) (.tmp 61) 73 rfl (wm.heap.size) 23 j0' _ 1 8 Try.underlying73 hj0 hy0 hy1 hy2 rfl (by decide) u12 os.length (us os) rfl (hrow4.out.alloc _) (w4.heap.size + 1) (some ⟨w4.heap.size, 0, none⟩) 1 1 [.int .u64 tk] rfl ((reads_at w4 _ [.int .u64 tk] 1 _ rfl rfl).more (by simp)) (u_one _) (by unfold maxLen; omega) (by omega) (by have := hz4.out; simp; omega) ?_
                   intro v2 w5 hown1 hg1 hat1))
              have hbel5 : Hid (Below wm.heap.size wm w5) := (hbel4.out.alloc hz4.out _).grown hg1 (by have := hz4.out; simp; omega) (fun q hq => (hrow4.out.lt q hq).1)
              have hrow5 : Hid (w5.ownsRow wm.heap.size 23 1 v2 (keysP ((inR lo hi (ps.take (k + 1))).map (shP by_))).length (us (keysP ((inR lo hi (ps.take (k + 1))).map (shP by_))))) := by
                unfold Hid
                rw [hZ.out, hOS.out, htv.out, List.length_append]
                exact own_snocU hown1
              have hown5 : Hid (w5.ownsRow wm.heap.size 23 1 v1 (keysP (inR lo hi (ps.take (k + 1)))).length (us (keysP (inR lo hi (ps.take (k + 1)))))) := (hown4.out.alloc _).kept hg1 hap4.out.symm.kept
              have hap5 : Hid (Apart v1 v2) := (Apart.grow hap4.out.symm (hown4.out.alloc _) hat1).symm
              clear hown1 hg1 hat1
              go_wp2
              go_roundw
              case rel => exact ⟨k + 1, by omega, by go_num, hown5, hrow5, hap5, hbel5⟩
              case measure => simp [intOf]; omega
          · obtain rfl : k = n := by omega
            have htk : ps.take k = ps := List.take_of_length_le (by have := hlen.out; omega)
            rw [htk] at hown hrow
            have hil : (keysP (inR lo hi ps)).length ≤ k := by rw [keysP_len, ← hlen.out]; exact inR_le _ _ _
            have hol : (keysP ((inR lo hi ps).map (shP by_))).length ≤ k := by rw [keysP_len, List.length_map, ← hlen.out]; exact inR_le _ _ _
            obtain ⟨A4, c4, rfl, _⟩ := own_form hrow.out
            have hr4 := Lib.hid (Reads.of_own hrow.out)
            obtain ⟨A3, c3, rfl, _⟩ := own_form hown.out
            have hr3 := Lib.hid (Reads.of_own hown.out)
            obtain ⟨Am, nm, cm, hBm, hRm, hnm⟩ := hIM.out.below hbel.out
            have hBm := Lib.hid hBm
            have hRm := Lib.hid hRm
            have hRp : Hid (Reads wr wr.heap.size 2 A k (prs ps)) := (hrm.out.below hbel.out).more hsz.out
            have M0 := hBm.out.cell 0
            simp at M0
            have hgr : w2.heap.size < wr.heap.size := by have := hsz.out; have := hgm.out; omega
            have hNM := Lib.hid hnm
            have hbw : Hid (Below w.heap.size w wr) := hbm.out.trans (hbel.out.mono (Nat.le_of_lt hsm.out))
            clear htk hown L0 L1 hnm
            go_wp2_with fail
            go_region_held3 (fun w' => w'.cell? ⟨w2.heap.size, 0, none⟩ = some (.slice Am nm cm))
              (first
                | go_keep
                | exact (hb6.out.cell (p := ⟨w2.heap.size, 0, none⟩) hgr).trans M0
                | exact (hb.cell (p := ⟨w2.heap.size, 0, none⟩) hgr6).trans ((hb6.out.cell (p := ⟨w2.heap.size, 0, none⟩) hgr).trans M0))
              (first
                | (go_at_call 44
                   refine (merged_any (keysP (inR lo hi ps)) (keysP ((inR lo hi ps).map (shP by_))) A3 A4 _ _ c3 c4 wr.drew (hr3.out.drew) (hr4.out.drew) (by omega) (by omega)).mono ?_
                   rintro e w6 ⟨A6, c6, rfl, ho6, hl6, hb⟩
                   have hb6 : Hid (Below wr.heap.size wr w6) := (Below.refl _ _).drew.trans hb
                   have hr6 := Lib.hid (Reads.of_own ho6)
                   have hgr6 : w2.heap.size < w6.heap.size := Nat.lt_of_lt_of_le hgr hb6.out.size
                   have hbw6 := below_on hbw hb6.out
                   have hlm : (mrg (keysP (inR lo hi ps)) (keysP ((inR lo hi ps).map (shP by_)))).length ≤ 1000000 := by omega
                   clear hb ho6 hl6)
                | (go_at_call 43
                   refine (between_any ps (moved lo hi by_ ps) (mrg (keysP (inR lo hi ps)) (keysP ((inR lo hi ps).map (shP by_)))) A Am A6 k nm _ c cm c6 w6 (reads_on hRp hb6.out) (reads_on hRm hb6.out) hr6 ⟨by omega, hC.out.1, hC.out.2⟩ hNM.out hlm).mono ?_
                   rintro e w7 ⟨A7, c7, rfl, ho7, hb⟩))
            have hbw7 := below_on hbw6 hb
            rw [hMV.out] at ho7
            have hml : (mrg (keysP (inR lo hi ps)) (keysP ((inR lo hi ps).map (shP by_)))).length = (mv lo hi ((inR lo hi ps).map (shP by_)) ps).length := by rw [← hMV.out, btw_len]
            rw [hml] at ho7 ⊢
            have hO7 := Lib.hid (own_base ho7 hbw6.out.size)
            clear hb ho7 hml
            go_wp2_with fail
            go_ret2
            rw [hE.out]
            exact ⟨A7, c7, rfl, hO7.out, hbw7.out⟩
  · obtain rfl := h2 hp
    have hE := Lib.hid (outM_no (lo := lo) (hi := hi) (by_ := by_) hp)
    clear h1 h2 hp
    go_wp2_with fail
    go_ret2
    rw [hE.out]
    exact chgEnd_nil hb1.out

set_option maxRecDepth 100000 in
set_option maxHeartbeats 4000000 in
theorem rdelete_any (ps : List Pr) (A : Option Addr) (n c : Nat) (lo hi : Int) (w : World) (hr : Hid (Reads w w.heap.size 2 A n (prs ps))) (hn : n ≤ 100000) (hc : n ≤ c ∧ c ≤ 9223372036854775807) :
    Calls Try.prog 15 #[.slice A n c, .agg #[.int .u64 lo, .int .u64 hi]] w (ChgEnd (outD lo hi ps) w) := by
  obtain ⟨i0, hi0, hz0, hz1, hz2⟩ := info_parts infoPair
  obtain ⟨j0', hj0, hy0, hy1, hy2⟩ := info_parts infoU64
  have hlen := Lib.hid (prs_n hr.out)
  have hC := Lib.hid hc
  clear hc
  go_enter Try.func15, Try.ntmps15
  go_wp2_with fail
  refine (ascR_any ps A n c _ ((hr.out.alloc (Nat.le_refl _) _).more (by simp)) (by omega)).mono ?_
  rintro e w1 ⟨h1, h2, hb⟩
  have hb1 : Hid (Below w.heap.size w w1) := ((Below.refl _ _).alloc (Nat.le_refl _) _).trans (hb.mono (by simp))
  have hk1 : Hid (Blk w1 w.heap.size 25 #[.int .u64 lo, .int .u64 hi]) := (Blk.new w _ _).below hb (by simp)
  have hs1 : Hid (w.heap.size < w1.heap.size) := by have := hb.size; simp at this; unfold Hid; omega
  clear hb
  by_cases hp : Asc ps
  · obtain rfl := h1 hp
    have hP := Lib.hid hp
    clear h1 h2 hp
    go_wp2_with (
      at_builtin
      refine wpList_append_any _ rfl (.tmp 14) (.tmp 15) 22 rfl w1.heap.size 47 i0 _ 2 16 Try.underlying22 hi0 hz0 hz1 hz2 rfl (by decide) (.slice (some ⟨w1.heap.size, 0, none⟩) 0 0) 0 [] rfl (own_lit w1 #[] 0 _ rfl (Nat.le_refl _) (Nat.zero_le _) rfl) w.heap.size A n c (prs ps) rfl ((hr.out.below hb1.out).alloc hb1.out.size _) (prs_one _) (by unfold maxLen; omega) (by omega) (by simp) ?_
      intro v2 w2 hown2 hg2 hat2
      rw [Nat.zero_add, List.nil_append] at hown2
      obtain ⟨A2, c2, rfl, hc2, hc2'⟩ := own_form hown2
      unfold maxLen at hc2'
      have hb2' : Hid (Below w1.heap.size w1 w2) := ((Below.refl _ _).alloc (Nat.le_refl _) _).grown hg2 (by simp) (fun q hq => by simp [Value.ownBlock] at hq; omega)
      have hb2 : Hid (Below w.heap.size w w2) := hb1.out.trans (hb2'.out.mono hb1.out.size)
      have hk2 : Hid (Blk w2 w.heap.size 25 #[.int .u64 lo, .int .u64 hi]) := hk1.out.below hb2'.out hs1.out
      have hs2 : w.heap.size < w2.heap.size := Nat.lt_of_lt_of_le hs1.out hb2'.out.size
      have hm2 : Hid (IsM (w2.alloc (.cells #[.slice A2 n c2] 72)) w2.heap.size ps) := ⟨A2, n, c2, Blk.new w2 _ _, ((Reads.of_own hown2).alloc (Nat.le_refl _) _).more (by simp), by omega, hc2, hc2'⟩
      have L0 := hk2.out.cell 0
      have L1 := hk2.out.cell 1
      simp at L0 L1
      clear hown2 hg2 hat2 hb1 hb2' hk1 hs1)
    go_wp2_with fail
    by_cases hbad : hi < lo
    · refine (delR_no ps w2.heap.size lo hi _ hm2 hbad).mono ?_
      rintro e w3 ⟨rfl, hb⟩
      have hb3 : Hid (Below w.heap.size w w3) := (hb2.out.alloc (Nat.le_of_lt hs2) _).trans (hb.mono (by simp; omega))
      have hE : Hid (outD lo hi ps = ([], 13)) := outD_bad hP.out hbad
      clear hb hbad L0 L1
      go_wp2_with fail
      go_ret2
      rw [hE.out]
      exact chgEnd_nil hb3.out
    · refine (delR_ok ps w2.heap.size lo hi _ hm2 hbad).mono ?_
      rintro e wm ⟨rfl, hIM, hM⟩
      have hE : Hid (outD lo hi ps = (dels (inR lo hi ps), 0)) := outD_ok hP.out hbad
      have hMV := Lib.hid (rdel_dels (lo := lo) (hi := hi) hP.out)
      have hbm : Hid (Below w.heap.size w wm) := below_map (hb2.out.alloc (Nat.le_of_lt hs2) _) hM (by simp; omega) (Nat.le_of_lt hs2)
      have hkm : Hid (Blk wm w.heap.size 25 #[.int .u64 lo, .int .u64 hi]) := (hk2.out.alloc _).grown hM (by simp; omega)
      have hsm : Hid (w.heap.size < wm.heap.size) := by have := hM.size; simp at this; unfold Hid; omega
      have hgm : Hid (w2.heap.size < wm.heap.size) := by have := hM.size; simp at this; unfold Hid; omega
      have hrm : Hid (Reads wm wm.heap.size 2 A n (prs ps)) := (hr.out.below hbm.out).more (Nat.le_of_lt hsm.out)
      have hIM := Lib.hid hIM
      clear hM hm2 hbad L0 L1 hk2 hb2
      go_wp2_with fail
      go_loopw [9, 10] (fun v i wr => ∃ k : Nat, k ≤ n ∧ i = .int .i64 k ∧ Hid (wr.ownsRow wm.heap.size 23 1 v (keysP (inR lo hi (ps.take k))).length (us (keysP (inR lo hi (ps.take k))))) ∧ Hid (Below wm.heap.size wm wr)) (fun _ i _ => n - (intOf i).toNat)
      case atStart => exact ⟨0, by omega, rfl, World.ownsRow_nil _ _ _ _, Below.refl _ _⟩
      case round =>
        obtain ⟨k, hk, rfl, hown, hbel⟩ := hrel
        have hsz := Lib.hid hbel.out.size
        have hB := Lib.hid (hkm.out.below hbel.out hsm.out)
        have hgl := hB.out.lt
        have L0 := hB.out.cell 0
        have L1 := hB.out.cell 1
        simp at L0 L1
        by_cases hlt : k < n
        · obtain ⟨b, o, rfl, hbB⟩ := reads_head hrm.out (by omega) (by decide)
          obtain ⟨p, hx, p0, p1⟩ := prs_at (hrm.out.below hbel.out) hlt
          have hX := Lib.hid hx
          have hil : (keysP (inR lo hi (ps.take k))).length ≤ k := by rw [keysP_len]; exact Nat.le_trans (inR_le _ _ _) (List.length_take_le _ _)
          obtain ⟨is, his⟩ : ∃ is, keysP (inR lo hi (ps.take k)) = is := ⟨_, rfl⟩
          rw [his] at hown hil
          have hIS := Lib.hid his
          clear his
          obtain ⟨qk, qv⟩ := p
          dsimp only at p0 p1
          have j0 : (0 : Int) ≤ (k : Int) := by omega
          have j1 : (k : Int) < (n : Int) := by omega
          have hbw : b < wr.heap.size := by have := hsz.out; omega
          clear hx
          go_wp2_with fail
          go_still_tail 6, (by kernel_rfl)
          change wpList _ _ _ _ _ wr.drew
          go_wp2_with fail
          refine (has02_any lo hi qk _).mono ?_
          rintro e w3 ⟨rfl, hb⟩
          have hb3 : Hid (Below wr.heap.size wr w3) := (Below.refl _ _).drew.trans hb
          have hbel3 : Hid (Below wm.heap.size wm w3) := hbel.out.trans (hb3.out.mono hsz.out)
          have hown3 := Lib.hid (own_below hown.out hb3.out)
          have hz3 := Lib.hid hbel3.out.size
          have q0 := (hb3.out.cell (p := ⟨b, o + k * 2, none⟩) hbw).trans p0
          have hbw3 : b < w3.heap.size := by have := hz3.out; omega
          clear hb hb3 L0 L1 p0 p1
          rcases hin : inB lo hi qk with _ | _
          · have hY : Hid (keysP (inR lo hi (ps.take (k + 1))) = is) := by unfold Hid; rw [inR_no hX.out hin]; exact hIS.out
            clear hin
            go_wp2_with fail
            go_roundw
            case rel => exact ⟨k + 1, by omega, by go_num, by rw [hY.out]; exact hown3, hbel3⟩
            case measure => simp [intOf]; omega
          · have hY := Lib.hid (keysIn_yes hX.out hin)
            clear hin
            go_wp2_with (at_builtin; refine wpList_append_any _ rfl (.tmp 41) (.tmp 47) 73 rfl (wm.heap.size) 23 j0' _ 1 8 Try.underlying73 hj0 hy0 hy1 hy2 rfl (by decide) u9 is.length (us is) rfl (hown3.out.alloc _) (w3.heap.size + 1) (some ⟨w3.heap.size, 0, none⟩) 1 1 [.int .u64 qk] rfl ((reads_at w3 _ [.int .u64 qk] 1 _ rfl rfl).more (by simp)) (u_one _) (by unfold maxLen; omega) (by omega) (by have := hz3.out; simp; omega) ?_; intro v1 w4 hown1 hg1 hat1)
            have hbel4 : Hid (Below wm.heap.size wm w4) := (hbel3.out.alloc hz3.out _).grown hg1 (by have := hz3.out; simp; omega) (fun q hq => (hown3.out.lt q hq).1)
            have hown4 : Hid (w4.ownsRow wm.heap.size 23 1 v1 (keysP (inR lo hi (ps.take (k + 1)))).length (us (keysP (inR lo hi (ps.take (k + 1)))))) := by
              unfold Hid
              rw [hY.out, hIS.out, List.length_append]
              exact own_snocU hown1
            clear hown1 hg1 hat1
            go_wp2
            go_roundw
            case rel => exact ⟨k + 1, by omega, by go_num, hown4, hbel4⟩
            case measure => simp [intOf]; omega
        · obtain rfl : k = n := by omega
          have htk : ps.take k = ps := List.take_of_length_le (by have := hlen.out; omega)
          rw [htk] at hown
          have hil : (keysP (inR lo hi ps)).length ≤ k := by rw [keysP_len, ← hlen.out]; exact inR_le _ _ _
          obtain ⟨A3, c3, rfl, _⟩ := own_form hown.out
          have hr3 := Lib.hid (Reads.of_own hown.out)
          obtain ⟨Am, nm, cm, hBm, hRm, hnm⟩ := hIM.out.below hbel.out
          have hBm := Lib.hid hBm
          have hRm := Lib.hid hRm
          have hRp : Hid (Reads wr wr.heap.size 2 A k (prs ps)) := (hrm.out.below hbel.out).more hsz.out
          have M0 := hBm.out.cell 0
          simp at M0
          have hgr : w2.heap.size < wr.heap.size := by have := hsz.out; have := hgm.out; omega
          have hNM := Lib.hid hnm
          have hbw : Hid (Below w.heap.size w wr) := hbm.out.trans (hbel.out.mono (Nat.le_of_lt hsm.out))
          clear htk hown L0 L1 hnm
          go_wp2_with fail
          refine (between_any ps (outR lo hi ps) (keysP (inR lo hi ps)) A Am A3 k nm _ c cm c3 wr hRp hRm hr3 ⟨by omega, hC.out.1, hC.out.2⟩ hNM.out (by omega)).mono ?_
          rintro e w7 ⟨A7, c7, rfl, ho7, hb⟩
          have hbw7 := below_on hbw hb
          rw [hMV.out] at ho7
          have hml : (keysP (inR lo hi ps)).length = (dels (inR lo hi ps)).length := by rw [keysP_len, dels_len]
          rw [hml] at ho7 ⊢
          have hO7 := Lib.hid (own_base ho7 hbw.out.size)
          clear hb ho7 hml
          go_wp2_with fail
          go_ret2
          rw [hE.out]
          exact ⟨A7, c7, rfl, hO7.out, hbw7.out⟩
  · obtain rfl := h2 hp
    have hE := Lib.hid (outD_no (lo := lo) (hi := hi) hp)
    clear h1 h2 hp
    go_wp2_with fail
    go_ret2
    rw [hE.out]
    exact chgEnd_nil hb1.out
end Go.Proofs.Ytlaocajjenfgpaa
