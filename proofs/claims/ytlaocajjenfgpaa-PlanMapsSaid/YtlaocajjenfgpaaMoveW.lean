/- plan.Move, walked. -/
import Derived.Test.YtlaocajjenfgpaaMoveP
import Derived.Deep.RegionHeld3
import Derived.OpenShut
import Derived.Outline
namespace Go.Proofs.Ytlaocajjenfgpaa
open Go Go.RowKit
set_option linter.unusedVariables false

set_option maxRecDepth 100000 in
set_option maxHeartbeats 4000000 in
theorem move_any (ps : List Pr) (A : Option Addr) (n c : Nat) (lo hi by_ : Int) (w : World) (hr : Hid (Reads w w.heap.size 2 A n (prs ps))) (hn : n ≤ 100000)
    (wlo : (Lit.int .u64 lo).wf = true) (whi : (Lit.int .u64 hi).wf = true) (wby : (Lit.int .u64 by_).wf = true) :
    Calls Try.prog 12 #[.slice A n c, .agg #[.int .u64 lo, .int .u64 hi], .int .u64 by_] w (ChgEnd (outM lo hi by_ ps) w) := by
  obtain ⟨i0, hi0, hz0, hz1, hz2⟩ := info_parts infoChg
  have hlen := Lib.hid (prs_n hr.out)
  have hLO := Lib.hid (bounds_u64 wlo)
  have hhi := bounds_u64 whi
  have hby := bounds_u64 wby
  have hHI := Lib.hid hhi
  have hBY := Lib.hid hby
  clear wlo whi wby hhi hby
  go_enter Try.func12, Try.ntmps12
  go_wp2_with fail
  go_step3
  go_wp2_with fail
  refine (checked_any ps A n c lo hi _ ((hr.out.alloc (Nat.le_refl _) _).more (by simp)) (by omega)).mono ?_
  rintro e w1 ⟨h1, h2, h3, hb⟩
  have hb1 : Hid (Below w.heap.size w w1) := ((Below.refl _ _).alloc (Nat.le_refl _) _).trans (hb.mono (by simp))
  have hk1 : Hid (Blk w1 w.heap.size 25 #[.int .u64 lo, .int .u64 hi]) := (Blk.new w _ _).below hb (by simp)
  have hs1 : Hid (w.heap.size < w1.heap.size) := by have := hb.size; simp at this; unfold Hid; omega
  clear hb
  by_cases hp : Asc ps
  · by_cases hlh : lo ≤ hi
    · obtain ⟨A1, c1, rfl, ho1⟩ := h3 hp hlh
      have hP := Lib.hid hp
      clear h1 h2 h3 hp
      have L0 := hk1.out.cell 0
      have L1 := hk1.out.cell 1
      simp at L0 L1
      have hLH := Lib.hid hlh
      by_cases hby0 : by_ = 0
      · subst hby0
        have hE := Lib.hid (outM_zero hP.out hlh)
        have hd0 : ((0 : Int) == 0) = true := rfl
        clear hlh
        go_wp2_with fail
        (try rw [Exit.noGoto_ret])
        go_ret2
        rw [hE.out]
        exact chgEnd_nil hb1.out
      · have hd0 : (by_ == 0) = false := by simpa using hby0
        have hBN := Lib.hid hby0
        obtain ⟨M, hM⟩ : ∃ M : Int, IntKind.u64.wrap (18446744073709551615 - hi) = M := ⟨_, rfl⟩
        have hMv : Hid (M = 18446744073709551615 - hi) := by
          unfold Hid
          rw [← hM, IntWalk.u64_in _ (by have := hHI.out; omega)]
        by_cases hov : M < by_
        · have hE := Lib.hid (outM_over hP.out hlh hBN.out (by rw [← hMv.out]; exact hov))
          have hd1 : decide (M < by_) = true := by simpa using hov
          clear hlh hby0 hov
          go_wp2_with fail
          (try rw [Exit.noGoto_ret])
          go_ret2
          rw [hE.out]
          exact chgEnd_nil hb1.out
        · have hE := Lib.hid (outM_ok hP.out hlh hBN.out (by rw [← hMv.out]; exact hov))
          have hd1 : decide (M < by_) = false := by simpa using hov
          clear hlh hby0
          go_wp2_with fail
          go_step3
          go_wp2_with fail
          have hms := Lib.hid (show ∀ q ∈ inR lo hi ps, (0 ≤ q.key + by_ ∧ q.key + by_ ≤ 18446744073709551615) from fun q hq => by
            have h1 := in_bd (by_ := by_) hq
            have h2 := hLO.out
            have h3 := hHI.out
            have h4 := hBY.out
            have h5 := hMv.out
            omega)
          have hr1 := Lib.hid (Reads.of_own ho1)
          have hmn : (inR lo hi ps).length ≤ n := by rw [← hlen.out]; exact inR_le _ _ _
          clear ho1
          obtain ⟨ms, hms0⟩ : ∃ ms, inR lo hi ps = ms := ⟨_, rfl⟩
          rw [hms0] at hms hr1 hE hmn ⊢
          clear hms0
          obtain ⟨Mn, hMn⟩ : ∃ Mn, ms.length = Mn := ⟨_, rfl⟩
          rw [hMn] at hr1 hmn ⊢
          have hML := Lib.hid hMn
          clear hMn
          obtain ⟨ts, hts⟩ : ∃ ts, ms.map (shP by_) = ts := ⟨_, rfl⟩
          have htg : Hid (∀ k m, ms[k]? = some m → ts[k]? = some (shP by_ m)) := fun k m h => by rw [← hts]; exact sh_get h
          have htl : Hid (ts.length = Mn) := by unfold Hid; rw [← hts, List.length_map]; exact hML.out
          rw [hts] at hE
          clear hts
          obtain ⟨T, hT0⟩ : ∃ T, mv lo hi ts ps = T := ⟨_, rfl⟩
          rw [hT0] at hE
          have hT := Lib.hid hT0
          clear hT0 L0 L1 hov hd0 hd1
          go_wp2_with fail
          go_loopg [10, 11, 12] (Mn + 1) (fun g v i k wr => ∃ (q nn : Nat) (os : List Chg), nn + g = Mn + 1 ∧ q ≤ n ∧ i = .int .i64 q ∧ k = .int .i64 nn ∧ os.length ≤ q + nn ∧ Hid (wr.ownsRow w1.heap.size 37 5 v os.length (chs os)) ∧ Hid (Below w1.heap.size w1 wr) ∧ Hid (nn ≤ Mn → T = os ++ mv lo hi (ts.drop nn) (ps.drop q)) ∧ Hid (nn = Mn + 1 → T = os))
          case atStart => exact ⟨0, 0, [], by omega, by omega, rfl, rfl, by simp, World.ownsRow_nil _ _ _ _, Below.refl _ _, fun _ => by simpa using hT.out.symm, fun h => by omega⟩
          case round =>
            obtain ⟨q, nn, os, hg, hq, rfl, rfl, hos, hown, hbel, hT1, hT2⟩ := hrel
            have hsz := Lib.hid hbel.out.size
            have j0 : (0 : Int) ≤ (nn : Int) := by omega
            have q0 : (0 : Int) ≤ (q : Int) := by omega
            cases gk with
            | zero =>
              have hTe := Lib.hid (hT2.out (by omega))
              have hd2 : decide ((nn : Int) ≤ (Mn : Int)) = false := by simp; omega
              obtain ⟨A', c', rfl, _⟩ := own_form hown.out
              have hO := Lib.hid (own_base hown.out (show w.heap.size ≤ w1.heap.size from Nat.le_of_lt hs1.out))
              go_wp2_with fail
              (try rw [Exit.noGoto_ret])
              go_ret2
              rw [hE.out, hTe.out]
              exact ⟨A', c', rfl, hO.out, hb1.out.trans (hbel.out.mono (Nat.le_of_lt hs1.out))⟩
            | succ g =>
              have hTm := Lib.hid (hT1.out (by omega))
              have hd2 : decide ((nn : Int) ≤ (Mn : Int)) = true := by simp; omega
              have hd2n : decide (nn ≤ Mn) = true := by simp; omega
              clear hT1 hT2
              obtain ⟨wo, hwo⟩ : ∃ wo : World, wo = wr := ⟨_, rfl⟩
              subst hwo
              by_cases hlt : nn < Mn
              · -- one more pair moves
                obtain ⟨bm, om, rfl, hbM⟩ := reads_head hr1.out (by omega) (by decide)
                obtain ⟨m, hx, m0, m1⟩ := prs_at (hr1.out.below hbel.out) hlt
                have htt := Lib.hid (htg.out nn m hx)
                have hbd := hms.out m (List.mem_of_getElem? hx)
                obtain ⟨mk, mw⟩ := m
                dsimp only at m0 m1 hbd
                obtain ⟨tk, htk⟩ : ∃ tk : Int, IntKind.u64.wrap (mk + by_) = tk := ⟨_, rfl⟩
                have htv : Hid (shP by_ ⟨mk, mw⟩ = ⟨tk, mw⟩) := by
                  unfold Hid shP
                  rw [← htk, IntWalk.u64_in _ hbd]
                have j1 : (nn : Int) < (Mn : Int) := by omega
                have hbm : bm < wo.heap.size := by have := hsz.out; omega
                rw [htv.out] at htt
                have hTn := Lib.hid (mv_open hTm.out htt.out)
                have hd4 : ((nn : Int) == (Mn : Int)) = false := by simp; omega
                have hd5 : decide ((nn : Int) < (Mn : Int)) = true := by simp; omega
                clear hx hbd hTm
                go_wp2_with fail
                go_loopg [10, 11] (n - q) (fun g2 v i wr => ∃ (q : Nat) (os : List Chg), q + g2 = n ∧ i = .int .i64 q ∧ os.length ≤ q + nn ∧ Hid (wr.ownsRow w1.heap.size 37 5 v os.length (chs os)) ∧ Hid (Below w1.heap.size w1 wr) ∧ Hid (T = os ++ mvIn lo hi ⟨tk, mw⟩ (mv lo hi (ts.drop (nn + 1))) (ps.drop q)))
                case atStart => exact ⟨q, os, by omega, rfl, hos, hown.out, hbel.out, hTn.out⟩
                case round =>
                  clear hTn m0 m1
                  clear hown hbel hsz hos
                  obtain ⟨q, os, hqg, rfl, hos, hown, hbel, hTi⟩ := hrel
                  have hsz := Lib.hid hbel.out.size
                  have hlo : os.length ≤ 200001 := by omega
                  have q0 : (0 : Int) ≤ (q : Int) := by omega
                  have hB : Hid (Blk wr w.heap.size 25 #[.int .u64 lo, .int .u64 hi]) := hk1.out.below hbel.out hs1.out
                  have hgl := hB.out.lt
                  have hR := Below.refl wr.heap.size wr
                  obtain ⟨m, hx, m0, m1⟩ := prs_at (hr1.out.below hbel.out) hlt
                  obtain rfl : m = ⟨mk, mw⟩ := by
                    have h := htg.out nn m hx
                    rw [htt.out] at h
                    have h2 := Option.some.inj h
                    have h3 := htv.out
                    obtain ⟨a, b⟩ := m
                    simp only [shP, Pr.mk.injEq] at h2 h3 ⊢
                    omega
                  dsimp only at m0 m1
                  have hbm : bm < wr.heap.size := by have := hsz.out; omega
                  clear hx
                  cases gk with
                  | zero =>
                    obtain rfl : q = n := by omega
                    have hT3 := Lib.hid (mv_birth_end hTi.out (by have := hlen.out; omega))
                    have hd3 : decide ((q : Int) < (q : Int)) = false := by simp
                    clear hqg
                    go_wp2_with fail
                    go_quiet (fail)
                    go_wp2_with fail
                    have hne : Hid (u10.ownBlock ≠ some bm) := fun h => by have := (hown.out.lt bm h).1; omega
                    go_region_held3 (fun w' => w'.cell? ⟨bm, om + nn * 2, none⟩ = some (.int .u64 mk) ∧ w'.cell? ⟨bm, om + nn * 2 + 1, none⟩ = some (.int .u64 mw))
                        (first
                          | go_keep
                          | (go_split_ands
                             refine ⟨?_, ?_⟩
                             · (rw [hgrow.cell_far _ (by simp; omega) (Ne.symm hne.out)]; assumption)
                             · (rw [hgrow.cell_far _ (by simp; omega) (Ne.symm hne.out)]; assumption)))
                        ((refine step_append_any _ (by rfl) _ _ _ (by rfl) w1.heap.size 37 i0 _ 5 40 Try.underlying27 hi0 hz0 hz1 hz2 rfl (by omega) u10 os.length (chs os) (by rfl) ((own_drewN (hown.out.alloc _) _).drew)
                            (wr.heap.size + 1) (some ⟨wr.heap.size, 0, none⟩) 1 1 (chC ⟨tk, false, 0, true, mw⟩) (by rfl) ((((reads_at wr 37 (chC ⟨tk, false, 0, true, mw⟩) 1 _ rfl rfl).drewN _).drew).more (by simp)) (chC_one _)
                            (by unfold maxLen; omega) (by omega) (by have := hsz.out; simp; omega) ?_; intro v1 w4 hown1 hgrow hat))
                    have hbel4 : Hid (Below w1.heap.size w1 w4) := ((below_drewN (hbel.out.alloc hsz.out _) _).drew).grown hgrow (by have := hsz.out; simp; omega) (fun q hq => (hown.out.lt q hq).1)
                    have hown2 : Hid (w4.ownsRow w1.heap.size 37 5 v1 (os ++ [(⟨tk, false, 0, true, mw⟩ : Chg)]).length (chs (os ++ [(⟨tk, false, 0, true, mw⟩ : Chg)]))) := by
                      unfold Hid
                      rw [List.length_append]
                      exact own_snoc hown1
                    clear hown1 hgrow hat
                    go_wp2
                    go_roundg g
                    case measure => omega
                    case rel => exact ⟨q, nn + 1, _, by omega, by omega, rfl, by go_num, by simp; omega, hown2.out, hbel4.out, fun _ => hT3.out, fun h => by omega⟩
                  | succ g2 =>
                    obtain ⟨b, o, rfl, hbB⟩ := reads_head hr.out (by omega) (by decide)
                    obtain ⟨p, hx, p0, p1⟩ := prs_at ((hr.out.below hb1.out).more (show w.heap.size ≤ w1.heap.size from Nat.le_of_lt hs1.out) |>.below hbel.out) (k := q) (by omega)
                    have hX := Lib.hid hx
                    obtain ⟨pk, pv⟩ := p
                    dsimp only at p0 p1
                    have q1 : (q : Int) < (n : Int) := by omega
                    have hd3 : decide ((q : Int) < (n : Int)) = true := by simp; omega
                    have hbw : b < wr.heap.size := by have := hsz.out; have := hs1.out; omega
                    clear hx
                    rcases Int.lt_trichotomy pk tk with hlk | hek | hgk
                    · have hd6 : decide (pk ≤ tk) = true := by simp; omega
                      have hd7 : (pk == tk) = false := by simp; omega
                      go_wp2_with fail
                      go_quiet (fail)
                      go_wp2_with fail
                      have L0 := hB.out.cell 0
                      have L1 := hB.out.cell 1
                      simp at L0 L1
                      go_quiet (fail)
                      go_wp2_with fail
                      refine (has_any lo hi pk _).mono ?_
                      rintro e w3 ⟨rfl, hb⟩
                      have hb3 : Hid (Below wr.heap.size wr w3) := Below.trans (B := wr.heap.size) (by (repeat' (first | with_reducible exact hR | (with_reducible refine Below.setCell ?_ (by first | (simp; omega) | simp | omega) _) | (with_reducible refine Below.alloc ?_ (by first | (simp; omega) | simp | omega) _) | with_reducible refine below_drewN ?_ _ | with_reducible refine Below.drew ?_))) (hb.mono (by simp))
                      have hk3 : Blk w3 wr.heap.size 47 #[.int .u64 pk, .int .u64 pv] := ((Blk.new wr _ _).drewN _).below hb (by simp)
                      have hs3 : wr.heap.size < w3.heap.size := by have := hb.size; simp at this; omega
                      have ho3 := Lib.hid (own_below hown.out hb3.out)
                      have hbel3 : Hid (Below w1.heap.size w1 w3) := hbel.out.trans (hb3.out.mono hsz.out)
                      have hz3 := Lib.hid hbel3.out.size
                      have r0 := hk3.cell 0
                      have r1 := hk3.cell 1
                      simp at r0 r1
                      clear hb hk3 L0 L1 p0 p1 hb3
                      rcases hin : inB lo hi pk with _ | _
                      · have hT3 := Lib.hid (mv_pass hTi.out hX.out hlk hin)
                        clear hin
                        go_wp2_with fail
                        go_roundg g2
                        case measure => omega
                        case rel => exact ⟨q + 1, os, by omega, by go_num, by omega, ho3.out, hbel3.out, hT3.out⟩
                      · have hT3 := Lib.hid (mv_del hTi.out hX.out hlk hin)
                        clear hin
                        go_wp2_with (at_builtin; refine wpList_append_any _ rfl (.tmp 103) (.tmp 109) 27 rfl (w1.heap.size) 37 i0 _ 5 40 Try.underlying27 hi0 hz0 hz1 hz2 rfl (by decide) u10 os.length (chs os) rfl (ho3.out.alloc _) (w3.heap.size + 1) (some ⟨w3.heap.size, 0, none⟩) 1 1 (chC (delC ⟨pk, pv⟩)) rfl ((reads_at w3 _ (chC (delC ⟨pk, pv⟩)) 1 _ rfl rfl).more (by simp)) (chC_one _) (by unfold maxLen; omega) (by omega) (by have := hz3.out; simp; omega) ?_; intro v1 w4 hown1 hg1 hat1)
                        have hbel4 : Hid (Below w1.heap.size w1 w4) := (hbel3.out.alloc hz3.out _).grown hg1 (by have := hz3.out; simp; omega) (fun q hq => (ho3.out.lt q hq).1)
                        have hown2 : Hid (w4.ownsRow (w1.heap.size) 37 5 v1 (os ++ [(delC ⟨pk, pv⟩ : Chg)]).length (chs (os ++ [(delC ⟨pk, pv⟩ : Chg)]))) := by
                          unfold Hid
                          rw [List.length_append]
                          exact own_snoc hown1
                        clear hown1 hg1 hat1
                        go_wp2
                        go_roundg g2
                        case measure => omega
                        case rel => exact ⟨q + 1, _, by omega, by go_num, by simp; omega, hown2.out, hbel4.out, hT3.out⟩
                    · subst hek
                      have hT3 := Lib.hid (mv_swap hTi.out hX.out rfl)
                      have hd6 : decide (pk ≤ pk) = true := by simp
                      have hd7 : (pk == pk) = true := by simp
                      go_wp2_with fail
                      go_quiet (fail)
                      go_wp2_with fail
                      go_quiet (fail)
                      go_wp2_with fail
                      have hne : Hid (u10.ownBlock ≠ some bm) := fun h => by have := (hown.out.lt bm h).1; omega
                      have hneP : Hid (u10.ownBlock ≠ some wr.heap.size) := fun h => by have := (hown.out.lt _ h).2; omega
                      have hkP : Hid (Blk (wr.alloc (.cells #[.int .u64 pk, .int .u64 pv] 47)) wr.heap.size 47 #[.int .u64 pk, .int .u64 pv]) := Blk.new wr _ _
                      go_region_held3 (fun w' => w'.cell? ⟨wr.heap.size, 0, none⟩ = some (.int .u64 pk) ∧ w'.cell? ⟨wr.heap.size, 1, none⟩ = some (.int .u64 pv) ∧ w'.cell? ⟨bm, om + nn * 2 + 1, none⟩ = some (.int .u64 mw))
                          (first
                            | go_keep
                            | (go_split_ands
                               refine ⟨?_, ?_, ?_⟩
                               · (rw [hgrow.cell_far _ (by simp; omega) (Ne.symm hneP.out)]; assumption)
                               · (rw [hgrow.cell_far _ (by simp; omega) (Ne.symm hneP.out)]; assumption)
                               · (rw [hgrow.cell_far _ (by simp; omega) (Ne.symm hne.out)]; assumption)))
                          ((refine step_append_any _ (by rfl) _ _ _ (by rfl) w1.heap.size 37 i0 _ 5 40 Try.underlying27 hi0 hz0 hz1 hz2 rfl (by omega) u10 os.length (chs os) (by rfl) ((own_drewN ((hown.out.alloc _).alloc _) _).drew)
                              (wr.heap.size + 2) (some ⟨wr.heap.size + 1, 0, none⟩) 1 1 (chC ⟨pk, true, pv, true, mw⟩) (by rfl) ((((reads_at (wr.alloc _) 37 (chC ⟨pk, true, pv, true, mw⟩) 1 _ (by simp) rfl).drewN _).drew).more (by simp)) (chC_one _)
                              (by unfold maxLen; omega) (by omega) (by have := hsz.out; simp; omega) ?_; intro v1 w4 hown1 hgrow hat))
                      have hbel4 : Hid (Below w1.heap.size w1 w4) := ((below_drewN ((hbel.out.alloc hsz.out _).alloc (by have := hsz.out; simp; omega) _) _).drew).grown hgrow (by have := hsz.out; simp; omega) (fun q hq => (hown.out.lt q hq).1)
                      have hown2 : Hid (w4.ownsRow w1.heap.size 37 5 v1 (os ++ [(⟨pk, true, pv, true, mw⟩ : Chg)]).length (chs (os ++ [(⟨pk, true, pv, true, mw⟩ : Chg)]))) := by
                        unfold Hid
                        rw [List.length_append]
                        exact own_snoc hown1
                      clear hown1 hgrow hat
                      go_wp2
                      go_roundg g
                      case measure => omega
                      case rel => exact ⟨q + 1, nn + 1, _, by omega, by omega, by go_num, by go_num, by simp; omega, hown2.out, hbel4.out, fun _ => hT3.out, fun h => by omega⟩
                    · have hT3 := Lib.hid (mv_birth hTi.out hX.out hgk)
                      have hd6 : decide (pk ≤ tk) = false := by simp; omega
                      go_wp2_with fail
                      go_quiet (fail)
                      go_wp2_with fail
                      have hne : Hid (u10.ownBlock ≠ some bm) := fun h => by have := (hown.out.lt bm h).1; omega
                      go_region_held3 (fun w' => w'.cell? ⟨bm, om + nn * 2, none⟩ = some (.int .u64 mk) ∧ w'.cell? ⟨bm, om + nn * 2 + 1, none⟩ = some (.int .u64 mw))
                          (first
                            | go_keep
                            | (go_split_ands
                               refine ⟨?_, ?_⟩
                               · (rw [hgrow.cell_far _ (by simp; omega) (Ne.symm hne.out)]; assumption)
                               · (rw [hgrow.cell_far _ (by simp; omega) (Ne.symm hne.out)]; assumption)))
                          ((refine step_append_any _ (by rfl) _ _ _ (by rfl) w1.heap.size 37 i0 _ 5 40 Try.underlying27 hi0 hz0 hz1 hz2 rfl (by omega) u10 os.length (chs os) (by rfl) ((own_drewN (hown.out.alloc _) _).drew)
                              (wr.heap.size + 1) (some ⟨wr.heap.size, 0, none⟩) 1 1 (chC ⟨tk, false, 0, true, mw⟩) (by rfl) ((((reads_at wr 37 (chC ⟨tk, false, 0, true, mw⟩) 1 _ rfl rfl).drewN _).drew).more (by simp)) (chC_one _)
                              (by unfold maxLen; omega) (by omega) (by have := hsz.out; simp; omega) ?_; intro v1 w4 hown1 hgrow hat))
                      have hbel4 : Hid (Below w1.heap.size w1 w4) := ((below_drewN (hbel.out.alloc hsz.out _) _).drew).grown hgrow (by have := hsz.out; simp; omega) (fun q hq => (hown.out.lt q hq).1)
                      have hown2 : Hid (w4.ownsRow w1.heap.size 37 5 v1 (os ++ [(⟨tk, false, 0, true, mw⟩ : Chg)]).length (chs (os ++ [(⟨tk, false, 0, true, mw⟩ : Chg)]))) := by
                        unfold Hid
                        rw [List.length_append]
                        exact own_snoc hown1
                      clear hown1 hgrow hat
                      go_wp2
                      go_roundg g
                      case measure => omega
                      case rel => exact ⟨q, nn + 1, _, by omega, by omega, rfl, by go_num, by simp; omega, hown2.out, hbel4.out, fun _ => hT3.out, fun h => by omega⟩
              · -- all have moved: the rest of the range goes
                obtain rfl : nn = Mn := by omega
                have hTn := Lib.hid (mv_last hTm.out (by have := htl.out; omega))
                have hd4 : ((nn : Int) == (nn : Int)) = true := by simp
                have hd5 : decide ((nn : Int) < (nn : Int)) = false := by simp
                clear hlt hTm
                go_wp2_with fail
                go_loopg [10, 11] (n - q) (fun g2 v i wr => ∃ (q : Nat) (os : List Chg), q + g2 = n ∧ i = .int .i64 q ∧ os.length ≤ q + nn ∧ Hid (wr.ownsRow w1.heap.size 37 5 v os.length (chs os)) ∧ Hid (Below w1.heap.size w1 wr) ∧ Hid (T = os ++ dels (inR lo hi (ps.drop q))))
                case atStart => exact ⟨q, os, by omega, rfl, hos, hown.out, hbel.out, hTn.out⟩
                case round =>
                  clear hTn
                  clear hown hbel hsz hos
                  obtain ⟨q, os, hqg, rfl, hos, hown, hbel, hTi⟩ := hrel
                  have hsz := Lib.hid hbel.out.size
                  have hlo : os.length ≤ 200001 := by omega
                  have q0 : (0 : Int) ≤ (q : Int) := by omega
                  have hB : Hid (Blk wr w.heap.size 25 #[.int .u64 lo, .int .u64 hi]) := hk1.out.below hbel.out hs1.out
                  have hgl := hB.out.lt
                  have hR := Below.refl wr.heap.size wr
                  cases gk with
                  | zero =>
                    obtain rfl : q = n := by omega
                    have hT3 := Lib.hid (dl_end hTi.out (by have := hlen.out; omega))
                    have hd3 : decide ((q : Int) < (q : Int)) = false := by simp
                    clear hqg
                    go_wp2_with fail
                    go_quiet (fail)
                    go_wp2_with fail
                    go_roundg g
                    case measure => omega
                    case rel => exact ⟨q, nn + 1, os, by omega, by omega, rfl, by go_num, by omega, own_drewN hown.out _, below_drewN hbel.out _, fun h => by omega, fun _ => hT3.out⟩
                  | succ g2 =>
                    obtain ⟨b, o, rfl, hbB⟩ := reads_head hr.out (by omega) (by decide)
                    obtain ⟨p, hx, p0, p1⟩ := prs_at ((hr.out.below hb1.out).more (show w.heap.size ≤ w1.heap.size from Nat.le_of_lt hs1.out) |>.below hbel.out) (k := q) (by omega)
                    have hX := Lib.hid hx
                    obtain ⟨pk, pv⟩ := p
                    dsimp only at p0 p1
                    have q1 : (q : Int) < (n : Int) := by omega
                    have hd3 : decide ((q : Int) < (n : Int)) = true := by simp; omega
                    have hbw : b < wr.heap.size := by have := hsz.out; have := hs1.out; omega
                    clear hx
                    go_wp2_with fail
                    go_quiet (fail)
                    go_wp2_with fail
                    have L0 := hB.out.cell 0
                    have L1 := hB.out.cell 1
                    simp at L0 L1
                    go_quiet (fail)
                    go_wp2_with fail
                    refine (has_any lo hi pk _).mono ?_
                    rintro e w3 ⟨rfl, hb⟩
                    have hb3 : Hid (Below wr.heap.size wr w3) := Below.trans (B := wr.heap.size) (by (repeat' (first | with_reducible exact hR | (with_reducible refine Below.setCell ?_ (by first | (simp; omega) | simp | omega) _) | (with_reducible refine Below.alloc ?_ (by first | (simp; omega) | simp | omega) _) | with_reducible refine below_drewN ?_ _ | with_reducible refine Below.drew ?_))) (hb.mono (by simp))
                    have hk3 : Blk w3 wr.heap.size 47 #[.int .u64 pk, .int .u64 pv] := ((Blk.new wr _ _).drewN _).below hb (by simp)
                    have hs3 : wr.heap.size < w3.heap.size := by have := hb.size; simp at this; omega
                    have ho3 := Lib.hid (own_below hown.out hb3.out)
                    have hbel3 : Hid (Below w1.heap.size w1 w3) := hbel.out.trans (hb3.out.mono hsz.out)
                    have hz3 := Lib.hid hbel3.out.size
                    have r0 := hk3.cell 0
                    have r1 := hk3.cell 1
                    simp at r0 r1
                    clear hb hk3 L0 L1 p0 p1 hb3
                    rcases hin : inB lo hi pk with _ | _
                    · have hT3 := Lib.hid (dl_pass hTi.out hX.out hin)
                      clear hin
                      go_wp2_with fail
                      go_roundg g2
                      case measure => omega
                      case rel => exact ⟨q + 1, os, by omega, by go_num, by omega, ho3.out, hbel3.out, hT3.out⟩
                    · have hT3 := Lib.hid (dl_del hTi.out hX.out hin)
                      clear hin
                      go_wp2_with (at_builtin; refine wpList_append_any _ rfl (.tmp 103) (.tmp 109) 27 rfl (w1.heap.size) 37 i0 _ 5 40 Try.underlying27 hi0 hz0 hz1 hz2 rfl (by decide) u10 os.length (chs os) rfl (ho3.out.alloc _) (w3.heap.size + 1) (some ⟨w3.heap.size, 0, none⟩) 1 1 (chC (delC ⟨pk, pv⟩)) rfl ((reads_at w3 _ (chC (delC ⟨pk, pv⟩)) 1 _ rfl rfl).more (by simp)) (chC_one _) (by unfold maxLen; omega) (by omega) (by have := hz3.out; simp; omega) ?_; intro v1 w4 hown1 hg1 hat1)
                      have hbel4 : Hid (Below w1.heap.size w1 w4) := (hbel3.out.alloc hz3.out _).grown hg1 (by have := hz3.out; simp; omega) (fun q hq => (ho3.out.lt q hq).1)
                      have hown2 : Hid (w4.ownsRow (w1.heap.size) 37 5 v1 (os ++ [(delC ⟨pk, pv⟩ : Chg)]).length (chs (os ++ [(delC ⟨pk, pv⟩ : Chg)]))) := by
                        unfold Hid
                        rw [List.length_append]
                        exact own_snoc hown1
                      clear hown1 hg1 hat1
                      go_wp2
                      go_roundg g2
                      case measure => omega
                      case rel => exact ⟨q + 1, _, by omega, by go_num, by simp; omega, hown2.out, hbel4.out, hT3.out⟩
    · obtain rfl := h2 hp (by omega)
      have hE := Lib.hid (outM_bad (by_ := by_) hp (show hi < lo by omega))
      clear h1 h2 h3 hp
      go_wp2_with fail
      (try rw [Exit.noGoto_ret])
      go_ret2
      rw [hE.out]
      exact chgEnd_nil hb1.out
  · obtain rfl := h1 hp
    have hE := Lib.hid (outM_no (lo := lo) (hi := hi) (by_ := by_) hp)
    clear h1 h2 h3 hp
    go_wp2_with fail
    (try rw [Exit.noGoto_ret])
    go_ret2
    rw [hE.out]
    exact chgEnd_nil hb1.out
end Go.Proofs.Ytlaocajjenfgpaa
