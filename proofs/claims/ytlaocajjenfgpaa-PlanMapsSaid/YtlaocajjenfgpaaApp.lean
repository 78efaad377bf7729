/- plan.Apply, walked (printed by gen_app.py). -/
import Derived.Test.YtlaocajjenfgpaaAppM
import Derived.Test.YtlaocajjenfgpaaDel
import Derived.Test.YtlaocajjenfgpaaThenW
namespace Go.Proofs.Ytlaocajjenfgpaa
open Go Go.RowKit
set_option linter.unusedVariables false

def putL (c : Chg) : List Pr := if c.is = true then [⟨c.key, c.new⟩] else []
theorem putC_L (c : Chg) (r : List Pr) : putC c r = putL c ++ r := by
  unfold putC putL
  split <;> rfl
theorem appIn_cons (c : Chg) (f : List Pr → Option (List Pr)) (p : Pr) (ps : List Pr) : appIn c f (p :: ps) =
    if p.key < c.key then (appIn c f ps).map (p :: ·)
    else if p.key = c.key then (if c.was = true ∧ p.val = c.old then (f ps).map (putC c) else none)
    else if c.was = true then none else (f (p :: ps)).map (putC c) := rfl
theorem map_put (c : Chg) (os : List Pr) (t : Option (List Pr)) : (t.map (putC c)).map (os ++ ·) = t.map ((os ++ putL c) ++ ·) := by
  rw [Option.map_map]
  congr 1
  funext r
  simp [putC_L]
section
variable {T : Option (List Pr)} {c : Chg} {p : Pr} {f : List Pr → Option (List Pr)} {ps os : List Pr} {i : Nat}
theorem app_less (h : T = (appIn c f (ps.drop i)).map (os ++ ·)) (hp : ps[i]? = some p) (hk : p.key < c.key) : T = (appIn c f (ps.drop (i + 1))).map ((os ++ [p]) ++ ·) := by
  rw [h, drop_get hp, appIn_cons, if_pos hk, Option.map_map]
  congr 1
  funext r
  simp
theorem app_end_no (h : T = (appIn c f (ps.drop i)).map (os ++ ·)) (hi : ps.length ≤ i) (hw : c.was = true) : T = none := by
  rw [h, List.drop_of_length_le hi, appIn, if_pos hw]
  rfl
theorem app_end (h : T = (appIn c f (ps.drop i)).map (os ++ ·)) (hi : ps.length ≤ i) (hw : c.was = false) : T = (f (ps.drop i)).map ((os ++ putL c) ++ ·) := by
  rw [h, List.drop_of_length_le hi, appIn, if_neg (by simp [hw]), map_put]
theorem app_more_no (h : T = (appIn c f (ps.drop i)).map (os ++ ·)) (hp : ps[i]? = some p) (hk : c.key < p.key) (hw : c.was = true) : T = none := by
  rw [h, drop_get hp, appIn_cons, if_neg (by omega), if_neg (by omega), if_pos hw]
  rfl
theorem app_more (h : T = (appIn c f (ps.drop i)).map (os ++ ·)) (hp : ps[i]? = some p) (hk : c.key < p.key) (hw : c.was = false) : T = (f (ps.drop i)).map ((os ++ putL c) ++ ·) := by
  rw [h, drop_get hp, appIn_cons, if_neg (by omega), if_neg (by omega), if_neg (by simp [hw]), map_put]
theorem app_eq (h : T = (appIn c f (ps.drop i)).map (os ++ ·)) (hp : ps[i]? = some p) (hk : p.key = c.key) (hw : c.was = true ∧ p.val = c.old) : T = (f (ps.drop (i + 1))).map ((os ++ putL c) ++ ·) := by
  rw [h, drop_get hp, appIn_cons, if_neg (by omega), if_pos hk, if_pos hw, map_put]
theorem app_eq_no (h : T = (appIn c f (ps.drop i)).map (os ++ ·)) (hp : ps[i]? = some p) (hk : p.key = c.key) (hw : ¬ (c.was = true ∧ p.val = c.old)) : T = none := by
  rw [h, drop_get hp, appIn_cons, if_neg (by omega), if_pos hk, if_neg hw]
  rfl
end
/-- An owned list of pairs, one longer. -/
theorem own_snocP {w : World} {base n : Nat} {v : Value} {os : List Pr} {p : Pr} (h : w.ownsRow base 47 2 v (n + 1) (prs os ++ prC p)) : w.ownsRow base 47 2 v (n + 1) (prs (os ++ [p])) := by
  rw [prs_append, prs_one1]
  exact h

/-- What Apply returns. -/
def AppEnd (ps : List Pr) (l : List Chg) (w : World) (e : Ending) (w' : World) : Prop :=
  (¬ (Asc ps ∧ Plan l) → e = .returned (.tuple #[.slice none 0 0, .int .i64 2])) ∧ (Asc ps ∧ Plan l → app l ps = none → e = .returned (.tuple #[.slice none 0 0, .int .i64 8])) ∧
  (Asc ps ∧ Plan l → ∀ r, app l ps = some r → ∃ A c, e = .returned (.tuple #[.slice A r.length c, .int .i64 0]) ∧ w'.ownsRow w.heap.size 47 2 (.slice A r.length c) r.length (prs r)) ∧ Below w.heap.size w w'

set_option maxRecDepth 100000 in
set_option maxHeartbeats 4000000 in
theorem apply_any (ps : List Pr) (l : List Chg) (A A' : Option Addr) (n m ca cb : Nat) (w : World) (hr : Hid (Reads w w.heap.size 2 A n (prs ps))) (hr' : Hid (Reads w w.heap.size 5 A' m (chs l))) (hn : n ≤ 100000) (hm : m ≤ 100000) (hca : n ≤ ca) (hca' : ca ≤ 9223372036854775807) :
    Calls Try.prog 21 #[.slice A n ca, .slice A' m cb] w (AppEnd ps l w) := by
  obtain ⟨i0, hi0, hz0, hz1, hz2⟩ := info_parts infoPair
  have hla := Lib.hid (prs_n hr.out)
  have hlb := Lib.hid (chs_n hr'.out)
  go_enter Try.func21, Try.ntmps21
  go_wp2_with fail
  refine (asc_any ps A n ca w hr (by omega)).mono ?_
  rintro e w1 ⟨h1, h2, hb⟩
  have hb1 := Lib.hid hb
  clear hb
  by_cases hp : Asc ps
  · obtain rfl := h1 hp
    clear h1 h2
    have hPa := Lib.hid hp
    clear hp
    go_wp2_with fail
    refine (check_any l A' m cb w1 ((hr'.out.below hb1.out).more hb1.out.size) (by omega)).mono ?_
    rintro e w2 ⟨h1, h2, hb⟩
    have hb2 : Hid (Below w.heap.size w w2) := hb1.out.trans (hb.mono hb1.out.size)
    clear hb hb1
    by_cases hp : Plan l
    · obtain rfl := h1 hp
      clear h1 h2
      have hPb := Lib.hid hp
      have hG : Hid (∀ k c, l[k]? = some c → GoodC c) := fun k c h => (hp k c h).1
      clear hp
      go_wp2_with fail
      go_loopw [7, 8, 22] (fun v q i wr => ∃ (j k : Nat) (os : List Pr), j ≤ m ∧ k ≤ n ∧ i = .int .i64 j ∧ q = .int .i64 k ∧ os.length ≤ j + k ∧ Hid (wr.ownsRow w.heap.size 47 2 v os.length (prs os)) ∧ Hid (Below w.heap.size w wr) ∧ Hid (app l ps = (app (l.drop j) (ps.drop k)).map (os ++ ·))) (fun _ _ i _ => m - (intOf i).toNat)
      case atStart => exact ⟨0, 0, [], by omega, by omega, rfl, rfl, by simp, World.ownsRow_nil _ _ _ _, hb2.out, by unfold Hid; simp⟩
      case round =>
        obtain ⟨j, k, os, hj, hk, rfl, rfl, hos, hown, hbel, hT⟩ := hrel
        have hsz := Lib.hid hbel.out.size
        by_cases hlt : j < m
        · obtain ⟨ba, oa, rfl, hbB⟩ := reads_head hr'.out (by omega) (by decide)
          obtain ⟨c, hx, c0, c1, c2, c3, c4⟩ := chs_at (hr'.out.below hbel.out) hlt
          have hT1 : Hid (app l ps = (appIn c (app (l.drop (j + 1))) (ps.drop k)).map (os ++ ·)) := by
            unfold Hid
            rw [hT.out, drop_get hx]
            rfl
          have hgd := Lib.hid (hG.out j c hx)
          obtain ⟨key, was, old, is, new⟩ := c
          dsimp only at c0 c1 c2 c3 c4
          have j0 : (0 : Int) ≤ (j : Int) := by omega
          have j1 : (j : Int) < (m : Int) := by omega
          have hbw : ba < wr.heap.size := by have := hsz.out; omega
          clear hx hT
          go_wp2_with fail
          clear c0 c1 c2 c3 c4
          obtain ⟨wo, hwo⟩ : ∃ wo : World, wo = wr := ⟨_, rfl⟩
          subst hwo
          go_loopw [7, 8] (fun v q wr => ∃ (k : Nat) (os : List Pr), k ≤ n ∧ q = .int .i64 k ∧ os.length ≤ j + k ∧ Hid (wr.ownsRow w.heap.size 47 2 v os.length (prs os)) ∧ Hid (Below w.heap.size w wr) ∧ Hid (app l ps = (appIn ⟨key, was, old, is, new⟩ (app (l.drop (j + 1))) (ps.drop k)).map (os ++ ·)) ∧
              Hid (Blk wr wo.heap.size 37 #[.int .u64 key, .bool was, .int .u64 old, .bool is, .int .u64 new])) (fun _ q _ => n - (intOf q).toNat)
          case atStart => exact ⟨k, os, hk, rfl, hos, hown.out.alloc _, hbel.out.alloc hsz.out _, hT1.out, Blk.new wo _ _⟩
          case round =>
            clear hown hbel hT1 hos hk hsz
            obtain ⟨k, os, hk, rfl, hos, hown, hbel, hT, hB⟩ := hrel
            have hsz := Lib.hid hbel.out.size
            have hlo : os.length ≤ 200000 := by omega
            have C0 := hB.out.cell 0
            have C1 := hB.out.cell 1
            have C2 := hB.out.cell 2
            have C3 := hB.out.cell 3
            have C4 := hB.out.cell 4
            have hgl := hB.out.lt
            simp at C0 C1 C2 C3 C4
            have q0 : (0 : Int) ≤ (k : Int) := by omega
            have hT := hT
            by_cases hlt2 : k < n
            · obtain ⟨bb, ob, rfl, hbB'⟩ := reads_head hr.out (by omega) (by decide)
              obtain ⟨p, hx, d0, d1⟩ := prs_at (hr.out.below hbel.out) hlt2
              have hX := Lib.hid hx
              obtain ⟨pk, pv⟩ := p
              dsimp only at d0 d1
              have q1 : (k : Int) < (n : Int) := by omega
              have hbw2 : bb < wr.heap.size := by have := hsz.out; omega
              clear hx
              rcases Int.lt_trichotomy pk key with hlk | hek | hgk
              · -- a pair with a smaller key
                have hT2 := Lib.hid (app_less hT.out hX.out hlk)
                go_wp2_with fail
                go_quiet (fail)
                go_wp2_with (at_builtin; refine wpList_append_any _ rfl (.tmp 40) (.tmp 45) 22 rfl (w.heap.size) 47 i0 _ 2 16 Try.underlying22 hi0 hz0 hz1 hz2 rfl (by decide) u7 os.length (prs os) rfl (own_drewN (hown.out.alloc _) _) (wr.heap.size + 1) (some ⟨wr.heap.size, 0, none⟩) 1 1 (prC ⟨pk, pv⟩) rfl (((reads_at wr _ (prC ⟨pk, pv⟩) 1 _ rfl rfl).more (by simp)).drewN _) (prC_one _) (by unfold maxLen; omega) (by omega) (by have := hsz.out; simp; omega) ?_; intro v1 w3 hown1 hg1 hat1)
                have hbel' : Hid (Below w.heap.size w w3) := (below_drewN (hbel.out.alloc hsz.out _) _).grown hg1 (by have := hsz.out; simp; omega) (fun q hq => (hown.out.lt q hq).1)
                have hown2 : Hid (w3.ownsRow (w.heap.size) 47 2 v1 (os ++ [(⟨pk, pv⟩ : Pr)]).length (prs (os ++ [(⟨pk, pv⟩ : Pr)]))) := by
                  unfold Hid
                  rw [List.length_append]
                  exact own_snocP hown1
                have hne : u7.ownBlock ≠ some wo.heap.size := own_blk_ne hown.out hB.out (by decide)
                have hB' : Hid (Blk w3 wo.heap.size 37 #[.int .u64 key, .bool was, .int .u64 old, .bool is, .int .u64 new]) := ((hB.out.alloc _).drewN _).grown hg1 (fun h => hne h.symm)
                clear hown1 hg1 hat1 hne
                go_wp2
                go_roundw
                case rel => exact ⟨k + 1, _, by omega, by go_num, by simp; omega, hown2, hbel', hT2, hB'⟩
                case measure => simp [intOf]; omega
              · -- the key is there
                subst hek
                have hd1 : decide (pk < pk) = false := by simp
                have hd2 : (pk == pk) = true := by simp
                by_cases hmt : was = true ∧ pv = old
                · have hT1 := Lib.hid (app_eq hT.out hX.out rfl hmt)
                  obtain ⟨rfl, rfl⟩ := hmt
                  have hd3 : (pv != pv) = false := by simp
                  rcases is with _ | _
                  · have hT2 : Hid (app l ps = (app (l.drop (j + 1)) (ps.drop (k + 1))).map (os ++ ·)) := by
                      unfold Hid
                      rw [hT1.out]
                      simp [putL]
                    clear hT hT1
                    go_wp2_with fail
                    go_quiet (fail)
                    go_wp2_with fail
                    go_quiet (fail)
                    go_wp2_with fail
                    go_quiet (fail)
                    go_wp2_with fail
                    go_roundw
                    case rel => exact ⟨j + 1, k + 1, os, by omega, by omega, by go_num, by go_num, by omega, own_drewN hown.out _, below_drewN hbel.out _, hT2⟩
                    case measure => simp [intOf]; omega
                  · have hT2 : Hid (app l ps = (app (l.drop (j + 1)) (ps.drop (k + 1))).map ((os ++ [⟨pk, new⟩]) ++ ·)) := by
                      unfold Hid
                      rw [hT1.out]
                      simp [putL]
                    clear hT hT1
                    go_wp2_with fail
                    go_quiet (fail)
                    go_wp2_with fail
                    go_quiet (fail)
                    go_wp2_with fail
                    go_quiet (fail)
                    go_wp2_with (at_builtin; refine wpList_append_any _ rfl (.tmp 85) (.tmp 91) 22 rfl (w.heap.size) 47 i0 _ 2 16 Try.underlying22 hi0 hz0 hz1 hz2 rfl (by decide) u7 os.length (prs os) rfl (own_drewN (hown.out.alloc _) _) (wr.heap.size + 1) (some ⟨wr.heap.size, 0, none⟩) 1 1 (prC ⟨pk, new⟩) rfl (((reads_at wr _ (prC ⟨pk, new⟩) 1 _ rfl rfl).more (by simp)).drewN _) (prC_one _) (by unfold maxLen; omega) (by omega) (by have := hsz.out; simp; omega) ?_; intro v1 w3 hown1 hg1 hat1)
                    have hbel' : Hid (Below w.heap.size w w3) := (below_drewN (hbel.out.alloc hsz.out _) _).grown hg1 (by have := hsz.out; simp; omega) (fun q hq => (hown.out.lt q hq).1)
                    have hown2 : Hid (w3.ownsRow (w.heap.size) 47 2 v1 (os ++ [(⟨pk, new⟩ : Pr)]).length (prs (os ++ [(⟨pk, new⟩ : Pr)]))) := by
                      unfold Hid
                      rw [List.length_append]
                      exact own_snocP hown1
                    clear hown1 hg1 hat1
                    go_wp2
                    go_roundw
                    case rel => exact ⟨j + 1, k + 1, _, by omega, by omega, by go_num, by go_num, by simp; omega, hown2, hbel', hT2⟩
                    case measure => simp [intOf]; omega
                · have hT2 := Lib.hid (app_eq_no hT.out hX.out rfl hmt)
                  rcases was with _ | _
                  · clear hmt
                    go_wp2_with fail
                    go_quiet (fail)
                    go_wp2_with fail
                    go_quiet (fail)
                    go_wp2_with fail
                    go_quiet (fail)
                    go_wp2_with fail
                    go_ret2
                    exact ⟨fun h => absurd ⟨hPa.out, hPb.out⟩ h, fun _ _ => rfl, (fun h r hr => by rw [hT2.out] at hr; cases hr), below_drewN (below_drewN (below_drewN hbel.out _) _) _⟩
                  · have hd3 : (pv != old) = true := by simpa using hmt
                    clear hmt
                    go_wp2_with fail
                    go_quiet (fail)
                    go_wp2_with fail
                    go_quiet (fail)
                    go_wp2_with fail
                    go_quiet (fail)
                    go_wp2_with fail
                    go_ret2
                    exact ⟨fun h => absurd ⟨hPa.out, hPb.out⟩ h, fun _ _ => rfl, (fun h r hr => by rw [hT2.out] at hr; cases hr), below_drewN (below_drewN (below_drewN hbel.out _) _) _⟩
              · -- a pair with a greater key
                have hd1 : decide (pk < key) = false := by simp; omega
                have hd2 : (pk == key) = false := by simp; omega
                rcases was with _ | _
                · have hT1 := Lib.hid (app_more hT.out hX.out hgk rfl)
                  obtain rfl : is = true := by simpa [GoodC] using hgd.out.1
                  have hT2 : Hid (app l ps = (app (l.drop (j + 1)) (ps.drop k)).map ((os ++ [⟨key, new⟩]) ++ ·)) := by
                    unfold Hid
                    rw [hT1.out]
                    simp [putL]
                  clear hT hT1
                  go_wp2_with fail
                  go_quiet (fail)
                  go_wp2_with fail
                  go_quiet (fail)
                  go_wp2_with fail
                  go_quiet (fail)
                  go_wp2_with (at_builtin; refine wpList_append_any _ rfl (.tmp 85) (.tmp 91) 22 rfl (w.heap.size) 47 i0 _ 2 16 Try.underlying22 hi0 hz0 hz1 hz2 rfl (by decide) u7 os.length (prs os) rfl (own_drewN (hown.out.alloc _) _) (wr.heap.size + 1) (some ⟨wr.heap.size, 0, none⟩) 1 1 (prC ⟨key, new⟩) rfl (((reads_at wr _ (prC ⟨key, new⟩) 1 _ rfl rfl).more (by simp)).drewN _) (prC_one _) (by unfold maxLen; omega) (by omega) (by have := hsz.out; simp; omega) ?_; intro v1 w3 hown1 hg1 hat1)
                  have hbel' : Hid (Below w.heap.size w w3) := (below_drewN (hbel.out.alloc hsz.out _) _).grown hg1 (by have := hsz.out; simp; omega) (fun q hq => (hown.out.lt q hq).1)
                  have hown2 : Hid (w3.ownsRow (w.heap.size) 47 2 v1 (os ++ [(⟨key, new⟩ : Pr)]).length (prs (os ++ [(⟨key, new⟩ : Pr)]))) := by
                    unfold Hid
                    rw [List.length_append]
                    exact own_snocP hown1
                  clear hown1 hg1 hat1
                  go_wp2
                  go_roundw
                  case rel => exact ⟨j + 1, k, _, by omega, by omega, by go_num, by go_num, by simp; omega, hown2, hbel', hT2⟩
                  case measure => simp [intOf]; omega
                · have hT2 := Lib.hid (app_more_no hT.out hX.out hgk rfl)
                  go_wp2_with fail
                  go_quiet (fail)
                  go_wp2_with fail
                  go_quiet (fail)
                  go_wp2_with fail
                  go_quiet (fail)
                  go_wp2_with fail
                  go_ret2
                  exact ⟨fun h => absurd ⟨hPa.out, hPb.out⟩ h, fun _ _ => rfl, (fun h r hr => by rw [hT2.out] at hr; cases hr), below_drewN (below_drewN (below_drewN hbel.out _) _) _⟩
            · -- no pair is left
              have hd1 : decide ((k : Int) < (n : Int)) = false := by simp; omega
              rcases was with _ | _
              · have hT1 := Lib.hid (app_end hT.out (by have := hla.out; omega) rfl)
                obtain rfl : is = true := by simpa [GoodC] using hgd.out.1
                have hT2 : Hid (app l ps = (app (l.drop (j + 1)) (ps.drop k)).map ((os ++ [⟨key, new⟩]) ++ ·)) := by
                  unfold Hid
                  rw [hT1.out]
                  simp [putL]
                clear hT hT1
                go_wp2_with fail
                go_quiet (fail)
                go_wp2_with fail
                go_quiet (fail)
                go_wp2_with fail
                go_quiet (fail)
                go_wp2_with (at_builtin; refine wpList_append_any _ rfl (.tmp 85) (.tmp 91) 22 rfl (w.heap.size) 47 i0 _ 2 16 Try.underlying22 hi0 hz0 hz1 hz2 rfl (by decide) u7 os.length (prs os) rfl (own_drewN (hown.out.alloc _) _) (wr.heap.size + 1) (some ⟨wr.heap.size, 0, none⟩) 1 1 (prC ⟨key, new⟩) rfl (((reads_at wr _ (prC ⟨key, new⟩) 1 _ rfl rfl).more (by simp)).drewN _) (prC_one _) (by unfold maxLen; omega) (by omega) (by have := hsz.out; simp; omega) ?_; intro v1 w3 hown1 hg1 hat1)
                have hbel' : Hid (Below w.heap.size w w3) := (below_drewN (hbel.out.alloc hsz.out _) _).grown hg1 (by have := hsz.out; simp; omega) (fun q hq => (hown.out.lt q hq).1)
                have hown2 : Hid (w3.ownsRow (w.heap.size) 47 2 v1 (os ++ [(⟨key, new⟩ : Pr)]).length (prs (os ++ [(⟨key, new⟩ : Pr)]))) := by
                  unfold Hid
                  rw [List.length_append]
                  exact own_snocP hown1
                clear hown1 hg1 hat1
                go_wp2
                go_roundw
                case rel => exact ⟨j + 1, k, _, by omega, by omega, by go_num, by go_num, by simp; omega, hown2, hbel', hT2⟩
                case measure => simp [intOf]; omega
              · have hT2 := Lib.hid (app_end_no hT.out (by have := hla.out; omega) rfl)
                go_wp2_with fail
                go_quiet (fail)
                go_wp2_with fail
                go_quiet (fail)
                go_wp2_with fail
                go_quiet (fail)
                go_wp2_with fail
                go_ret2
                exact ⟨fun h => absurd ⟨hPa.out, hPb.out⟩ h, fun _ _ => rfl, (fun h r hr => by rw [hT2.out] at hr; cases hr), below_drewN (below_drewN (below_drewN hbel.out _) _) _⟩
        · obtain rfl : j = m := by omega
          have hres : Hid (app l ps = some (os ++ ps.drop k)) := by
            unfold Hid
            rw [hT.out, List.drop_of_length_le (by have := hlb.out; omega)]
            rfl
          have hlen : Hid ((os ++ ps.drop k).length = os.length + (n - k)) := by unfold Hid; rw [List.length_append, List.length_drop, hla.out]
          have hcut : Hid (Reads wr w.heap.size 2 (if ca = k then A else A.map (·.add (k * 2))) (n - k) (prs (ps.drop k))) := by
            have h := (hr.out.below hbel.out).cut hk hca
            rw [prs, flat_drop prC 2 prC_len] at h
            exact h
          have hkc : (k : Int) ≤ (n : Int) := by omega
          have q0 : (0 : Int) ≤ (k : Int) := by omega
          go_wp2_with (at_builtin; refine wpList_append_any _ rfl (.tmp 94) (.tmp 97) 22 rfl w.heap.size 47 i0 _ 2 16 Try.underlying22 hi0 hz0 hz1 hz2 rfl (by decide) u7 os.length (prs os) rfl hown.out w.heap.size (if ca = k then A else A.map (·.add (k * 2))) (n - k) (ca - k) (prs (ps.drop k)) rfl hcut.out (prs_one _) (by unfold maxLen; omega) (by omega) hsz.out ?_; intro v1 w3 hown1 hg1 hat1)
          all_goals
            have hbel' : Hid (Below w.heap.size w w3) := hbel.out.grown hg1 hsz.out (fun q hq => (hown.out.lt q hq).1)
            obtain ⟨A3, c3, rfl, _⟩ := own_form hown1
            have hO : Hid (w3.ownsRow w.heap.size 47 2 (.slice A3 (os.length + (n - k)) c3) (os.length + (n - k)) (prs (os ++ ps.drop k))) := by
              unfold Hid
              rw [prs_append]
              exact hown1
            clear hown1 hg1 hat1 hcut
            try go_wp2
            go_ret2
            refine ⟨fun h => absurd ⟨hPa.out, hPb.out⟩ h, fun _ h => ?_, fun _ r hr => ⟨A3, c3, ?_, ?_⟩, hbel'.out⟩
            · rw [hres.out] at h; cases h
            · obtain rfl := Option.some.inj (hres.out.symm.trans hr)
              rw [hlen.out]
              rfl
            · obtain rfl := Option.some.inj (hres.out.symm.trans hr)
              rw [hlen.out]
              exact hO.out
    · obtain rfl := h2 hp
      have hP := Lib.hid hp
      clear h1 h2 hp
      go_wp2
      go_ret2
      exact ⟨fun _ => rfl, fun h => absurd h.2 hP.out, fun h => absurd h.2 hP.out, hb2.out⟩
  · obtain rfl := h2 hp
    have hP := Lib.hid hp
    clear h1 h2 hp
    go_wp2
    go_ret2
    exact ⟨fun _ => rfl, fun h => absurd h.1 hP.out, fun h => absurd h.1 hP.out, hb1.out⟩
end Go.Proofs.Ytlaocajjenfgpaa
