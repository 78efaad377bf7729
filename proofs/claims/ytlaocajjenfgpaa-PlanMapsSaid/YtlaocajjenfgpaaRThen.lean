/- The reference's Then, walked (printed by gen_rthen.py). -/
import Derived.Test.YtlaocajjenfgpaaKeys
import Derived.RegionTactic
namespace Go.Proofs.Ytlaocajjenfgpaa
open Go Go.RowKit
set_option linter.unusedVariables false

theorem r_done {R : Option (List Chg)} {a b os : List Chg} {ks : List Int} {i : Nat} (h : R = (rthn a b (ks.drop i)).map (os ++ ·)) (hi : ks.length ≤ i) : R = some os := by
  rw [h, List.drop_of_length_le hi]
  simp [rthn]
/-- What a key's change becomes. -/
def stepAt : Option Chg → Option Chg → Chg
  | some c, some d => joinC c d
  | some c, none => c
  | none, some d => d
  | none, none => ⟨0, false, 0, false, 0⟩
theorem r_step {a b : List Chg} {ks : List Int} {x : Int} (h : ¬ Clash (look Chg.key a x) (look Chg.key b x)) :
    rthn a b (x :: ks) = (rthn a b ks).map (fun r => if ((stepAt (look Chg.key a x) (look Chg.key b x)).was || (stepAt (look Chg.key a x) (look Chg.key b x)).is) = true then stepAt (look Chg.key a x) (look Chg.key b x) :: r else r) := by
  rw [rthn]
  rcases ha : look Chg.key a x with _ | c <;> rcases hb : look Chg.key b x with _ | d <;> dsimp only [stepAt]
  · simp
  · rfl
  · rfl
  · by_cases hm : Meet c d
    · rw [if_pos hm]
      rfl
    · exact absurd ⟨c, d, ha, hb, hm⟩ h
section
variable {R : Option (List Chg)} {a b os : List Chg} {ks : List Int} {i : Nat} {x : Int} {z : Chg}
theorem r_put (h : R = (rthn a b (ks.drop i)).map (os ++ ·)) (hx : ks[i]? = some x) (hc : ¬ Clash (look Chg.key a x) (look Chg.key b x)) (hz : stepAt (look Chg.key a x) (look Chg.key b x) = z) (hw : (z.was || z.is) = true) :
    R = (rthn a b (ks.drop (i + 1))).map ((os ++ [z]) ++ ·) := by
  rw [h, drop_get hx, r_step hc, hz, Option.map_map]
  congr 1
  funext r
  simp [hw]
theorem r_skip (h : R = (rthn a b (ks.drop i)).map (os ++ ·)) (hx : ks[i]? = some x) (hc : ¬ Clash (look Chg.key a x) (look Chg.key b x)) (hz : stepAt (look Chg.key a x) (look Chg.key b x) = z) (hw : (z.was || z.is) = false) :
    R = (rthn a b (ks.drop (i + 1))).map (os ++ ·) := by
  rw [h, drop_get hx, r_step hc, hz, Option.map_map]
  congr 1
  funext r
  simp [hw]
theorem r_clash (h : R = (rthn a b (ks.drop i)).map (os ++ ·)) (hx : ks[i]? = some x) {c d : Chg} (hc : look Chg.key a x = some c) (hd : look Chg.key b x = some d) (hm : ¬ Meet c d) : R = none := by
  rw [h, drop_get hx, rthn, hc, hd]
  dsimp only
  rw [if_neg hm]
  rfl
end

set_option maxRecDepth 100000 in
set_option maxHeartbeats 4000000 in
theorem rthen_any (a b : List Chg) (A A' : Option Addr) (n m ca cb : Nat) (w : World) (hr : Hid (Reads w w.heap.size 5 A n (chs a))) (hr' : Hid (Reads w w.heap.size 5 A' m (chs b))) (hn : n ≤ 100000) (hm : m ≤ 100000) :
    Calls Try.prog 19 #[.slice A n ca, .slice A' m cb] w (ThenEnd a b w) := by
  obtain ⟨i0, hi0, hz0, hz1, hz2⟩ := info_parts infoChg
  go_enter Try.func19, Try.ntmps19
  go_wp2_with fail
  refine (refcheck_any a A n ca w hr (by omega)).mono ?_
  rintro e w1 ⟨h1, h2, hb⟩
  have hb1 := Lib.hid hb
  clear hb
  by_cases hp : Plan a
  · obtain rfl := h1 hp
    clear h1 h2
    have hPa := Lib.hid hp
    clear hp
    go_wp2_with fail
    refine (refcheck_any b A' m cb w1 ((hr'.out.below hb1.out).more hb1.out.size) (by omega)).mono ?_
    rintro e w2 ⟨h1, h2, hb⟩
    have hb2 : Hid (Below w.heap.size w w2) := hb1.out.trans (hb.mono hb1.out.size)
    clear hb hb1
    by_cases hp : Plan b
    · obtain rfl := h1 hp
      clear h1 h2
      have hPb := Lib.hid hp
      clear hp
      go_wp2_with fail
      refine (keys_any a A n ca w2 ((hr.out.below hb2.out).more hb2.out.size) (by omega)).mono ?_
      rintro e w3 ⟨K1, k1, rfl, ho1, hb⟩
      have hb3 : Hid (Below w.heap.size w w3) := hb2.out.trans (hb.mono hb2.out.size)
      have hk1 : Hid (Reads w3 w3.heap.size 1 K1 n (us (keysOf a))) := Reads.of_own ho1
      clear hb hb2 ho1
      go_wp2_with fail
      refine (keys_any b A' m cb w3 ((hr'.out.below hb3.out).more hb3.out.size) (by omega)).mono ?_
      rintro e w4 ⟨K2, k2, rfl, ho2, hb⟩
      have hb4 : Hid (Below w.heap.size w w4) := hb3.out.trans (hb.mono hb3.out.size)
      have hk1' : Hid (Reads w4 w4.heap.size 1 K1 n (us (keysOf a))) := (hk1.out.below hb).more hb.size
      have hk2 : Hid (Reads w4 w4.heap.size 1 K2 m (us (keysOf b))) := Reads.of_own ho2
      clear hb hb3 ho2 hk1
      go_wp2_with fail
      refine (merged_any (keysOf a) (keysOf b) K1 K2 n m k1 k2 w4 hk1' hk2 (by omega) (by omega)).mono ?_
      rintro e w5 ⟨K3, k3, rfl, ho3, hle, hb⟩
      have hb5 : Hid (Below w.heap.size w w5) := hb4.out.trans (hb.mono hb4.out.size)
      have hk3 : Hid (Reads w5 w5.heap.size 1 K3 (mrg (keysOf a) (keysOf b)).length (us (mrg (keysOf a) (keysOf b)))) := Reads.of_own ho3
      clear hb hb4 ho3 hk1' hk2
      have hks : Hid (rthn a b (mrg (keysOf a) (keysOf b)) = thn a b) := rthn_thn a b hPa.out hPb.out
      obtain ⟨ks, hks'⟩ : ∃ ks, mrg (keysOf a) (keysOf b) = ks := ⟨_, rfl⟩
      rw [hks'] at hk3 hks hle ⊢
      clear hks'
      obtain ⟨K, hK⟩ : ∃ K, ks.length = K := ⟨_, rfl⟩
      rw [hK] at hk3 hle ⊢
      have hKl := Lib.hid hK
      clear hK
      have hra : Hid (Reads w5 w5.heap.size 5 A n (chs a)) := (hr.out.below hb5.out).more hb5.out.size
      have hrb : Hid (Reads w5 w5.heap.size 5 A' m (chs b)) := (hr'.out.below hb5.out).more hb5.out.size
      go_wp2_with fail
      go_loopw [7, 8] (fun v i wr => ∃ (j : Nat) (os : List Chg), j ≤ K ∧ i = .int .i64 j ∧ os.length ≤ j ∧ Hid (wr.ownsRow w5.heap.size 37 5 v os.length (chs os)) ∧ Hid (Below w5.heap.size w5 wr) ∧ Hid (thn a b = (rthn a b (ks.drop j)).map (os ++ ·))) (fun _ i _ => K - (intOf i).toNat)
      case atStart => exact ⟨0, [], by omega, rfl, by simp, World.ownsRow_nil _ _ _ _, Below.refl _ _, by unfold Hid; rw [← hks.out]; simp⟩
      case round =>
        obtain ⟨j, os, hj, rfl, hos, hown, hbel, hT⟩ := hrel
        have hsz := hbel.out.size
        by_cases hlt : j < K
        · obtain ⟨bk, ok, rfl, hbK⟩ := reads_head hk3.out (by omega) (by decide)
          obtain ⟨x, hx, x0⟩ := us_at (hk3.out.below hbel.out) hlt
          have hX := Lib.hid hx
          clear hx
          have j0 : (0 : Int) ≤ (j : Int) := by omega
          have j1 : (j : Int) < (K : Int) := by omega
          have hbw : bk < wr.heap.size := by omega
          go_wp2_with fail
          refine (find_any a x A n ca wr ((hra.out.below hbel.out).more hsz) (by omega)).mono ?_
          rintro e w6 ⟨f1, f2, hb⟩
          have hb6 : Hid (Below wr.heap.size wr w6) := hb
          have hs6 := hb.size
          have x1 : w6.cell? ⟨bk, ok + j, none⟩ = some (.int .u64 x) := (hb.cell (p := ⟨bk, ok + j, none⟩) hbw).trans x0
          have hbw6 : bk < w6.heap.size := by omega
          clear hb x0
          rcases hla : look Chg.key a x with _ | c
          · have hE := f2 hla
            dsimp only [chV] at hE
            subst hE
            have hLa := Lib.hid hla
            clear f1 f2 hla
            go_wp2_with fail
            refine (find_any b x A' m cb (w6.alloc (.cells #[.int .u64 0, .bool false, .int .u64 0, .bool false, .int .u64 0] 37)) (by exact (hrb.out.below ((hbel.out.trans (hb6.out.mono hsz)).alloc (by omega) _)).more (by simp; omega)) (by omega)).mono ?_
            rintro e w7 ⟨f1, f2, hb⟩
            have hb7 : Hid (Below wr.heap.size wr w7) := (hb6.out.alloc hs6 _).trans (hb.mono (by simp; omega))
            have hs7 : w6.heap.size < w7.heap.size := by have := hb.size; simp at this; omega
            have hB : Hid (Blk w7 w6.heap.size 37 #[.int .u64 0, .bool false, .int .u64 0, .bool false, .int .u64 0]) := (Blk.new w6 _ _).below hb (by simp)
            have C0 := hB.out.cell 0
            have C1 := hB.out.cell 1
            have C2 := hB.out.cell 2
            have C3 := hB.out.cell 3
            have C4 := hB.out.cell 4
            have F0 := hB.out.frozen 0
            have F1 := hB.out.frozen 1
            have F2 := hB.out.frozen 2
            have F3 := hB.out.frozen 3
            have F4 := hB.out.frozen 4
            simp at C0 C1 C2 C3 C4
            have hne67 : w6.heap.size ≠ w7.heap.size := by omega
            have hne76 : w7.heap.size ≠ w6.heap.size := by omega
            clear hb
            rcases hlb : look Chg.key b x with _ | d
            · have hE := f2 hlb
              dsimp only [chV] at hE
              subst hE
              have HC : ¬ Clash (look Chg.key a x) (look Chg.key b x) := by rw [hLa.out]; exact clash_left
              have HZ : stepAt (look Chg.key a x) (look Chg.key b x) = ⟨0, false, 0, false, 0⟩ := by rw [hLa.out, hlb]; rfl
              clear f1 f2 hlb
              have hT2 := Lib.hid (r_skip hT.out hX.out HC HZ (z := ⟨0, false, 0, false, 0⟩) rfl)
              clear HC HZ hT
              go_wp2_with fail
              go_roundw
              case rel => exact ⟨j + 1, os, by omega, by go_num, by omega, by unfold Hid; exact own_below hown.out (by (repeat' (first | with_reducible exact hb7.out | (with_reducible refine Below.setCell ?_ (by first | (simp; omega) | simp | omega) _) | (with_reducible refine Below.alloc ?_ (by first | (simp; omega) | simp | omega) _) | with_reducible refine below_drewN ?_ _ | with_reducible refine Below.drew ?_))), by unfold Hid; exact hbel.out.trans (Below.mono (by (repeat' (first | with_reducible exact hb7.out | (with_reducible refine Below.setCell ?_ (by first | (simp; omega) | simp | omega) _) | (with_reducible refine Below.alloc ?_ (by first | (simp; omega) | simp | omega) _) | with_reducible refine below_drewN ?_ _ | with_reducible refine Below.drew ?_))) hsz), hT2⟩
              case measure => simp [intOf]; omega
            · obtain ⟨dkey, dwas, dold, dis, dnew⟩ := d
              have hE := f1 _ hlb
              dsimp only [chV] at hE
              subst hE
              have HC : ¬ Clash (look Chg.key a x) (look Chg.key b x) := by rw [hLa.out]; exact clash_left
              have HZ : stepAt (look Chg.key a x) (look Chg.key b x) = ⟨dkey, dwas, dold, dis, dnew⟩ := by rw [hLa.out, hlb]; rfl
              clear f1 f2 hlb
              rcases dwas with _ | _
              · rcases dis with _ | _
                · have hT2 := Lib.hid (r_skip hT.out hX.out HC HZ (z := ⟨dkey, false, dold, false, dnew⟩) rfl)
                  clear HC HZ hT
                  go_wp2_with fail
                  go_roundw
                  case rel => exact ⟨j + 1, os, by omega, by go_num, by omega, by unfold Hid; exact own_below hown.out (by (repeat' (first | with_reducible exact hb7.out | (with_reducible refine Below.setCell ?_ (by first | (simp; omega) | simp | omega) _) | (with_reducible refine Below.alloc ?_ (by first | (simp; omega) | simp | omega) _) | with_reducible refine below_drewN ?_ _ | with_reducible refine Below.drew ?_))), by unfold Hid; exact hbel.out.trans (Below.mono (by (repeat' (first | with_reducible exact hb7.out | (with_reducible refine Below.setCell ?_ (by first | (simp; omega) | simp | omega) _) | (with_reducible refine Below.alloc ?_ (by first | (simp; omega) | simp | omega) _) | with_reducible refine below_drewN ?_ _ | with_reducible refine Below.drew ?_))) hsz), hT2⟩
                  case measure => simp [intOf]; omega
                  
                · have hT2 := Lib.hid (r_put hT.out hX.out HC HZ (z := ⟨dkey, false, dold, true, dnew⟩) rfl)
                  clear HC HZ hT
                  go_wp2_with (at_builtin; refine wpList_append_any _ rfl (.tmp 81) (.tmp 83) 27 rfl w5.heap.size 37 i0 _ 5 40 Try.underlying27 hi0 hz0 hz1 hz2 rfl (by decide) u7 os.length (chs os) rfl (by exact own_below hown.out (by (repeat' (first | with_reducible exact hb7.out | (with_reducible refine Below.setCell ?_ (by first | (simp; omega) | simp | omega) _) | (with_reducible refine Below.alloc ?_ (by first | (simp; omega) | simp | omega) _) | with_reducible refine below_drewN ?_ _ | with_reducible refine Below.drew ?_)))) (w7.heap.size + 2) (some ⟨w7.heap.size + 1, 0, none⟩) 1 1 (chC ⟨dkey, false, dold, true, dnew⟩) rfl (by first | exact (reads_at _ _ (chC ⟨dkey, false, dold, true, dnew⟩) 1 _ (by simp) rfl).more (by first | (simp; omega) | simp | omega) | exact ((reads_at _ _ (chC ⟨dkey, false, dold, true, dnew⟩) 1 _ (by simp) rfl).more (by first | (simp; omega) | simp | omega)).drew) (chC_one _) (by unfold maxLen; omega) (by omega) (by first | (simp; omega) | simp | omega) ?_; intro v1 w8 hown1 hg1 hat1)
                  have hbel8 : Hid (Below w5.heap.size w5 w8) := Below.grown (hbel.out.trans (Below.mono (by (repeat' (first | with_reducible exact hb7.out | (with_reducible refine Below.setCell ?_ (by first | (simp; omega) | simp | omega) _) | (with_reducible refine Below.alloc ?_ (by first | (simp; omega) | simp | omega) _) | with_reducible refine below_drewN ?_ _ | with_reducible refine Below.drew ?_))) hsz)) hg1 (by first | (simp; omega) | simp | omega) (fun q hq => (hown.out.lt q hq).1)
                  have hown2 : Hid (w8.ownsRow w5.heap.size 37 5 v1 (os ++ [(⟨dkey, false, dold, true, dnew⟩ : Chg)]).length (chs (os ++ [(⟨dkey, false, dold, true, dnew⟩ : Chg)]))) := by
                    unfold Hid
                    rw [List.length_append]
                    exact own_snoc hown1
                  clear hown1 hg1 hat1
                  go_wp2
                  go_roundw
                  case rel => exact ⟨j + 1, _, by omega, by go_num, by simp; omega, hown2, hbel8, hT2⟩
                  case measure => simp [intOf]; omega
                  
              · have hT2 := Lib.hid (r_put hT.out hX.out HC HZ (z := ⟨dkey, true, dold, dis, dnew⟩) rfl)
                clear HC HZ hT
                go_wp2_with (at_builtin; refine wpList_append_any _ rfl (.tmp 81) (.tmp 83) 27 rfl w5.heap.size 37 i0 _ 5 40 Try.underlying27 hi0 hz0 hz1 hz2 rfl (by decide) u7 os.length (chs os) rfl (by exact own_below hown.out (by (repeat' (first | with_reducible exact hb7.out | (with_reducible refine Below.setCell ?_ (by first | (simp; omega) | simp | omega) _) | (with_reducible refine Below.alloc ?_ (by first | (simp; omega) | simp | omega) _) | with_reducible refine below_drewN ?_ _ | with_reducible refine Below.drew ?_)))) (w7.heap.size + 2) (some ⟨w7.heap.size + 1, 0, none⟩) 1 1 (chC ⟨dkey, true, dold, dis, dnew⟩) rfl (by first | exact (reads_at _ _ (chC ⟨dkey, true, dold, dis, dnew⟩) 1 _ (by simp) rfl).more (by first | (simp; omega) | simp | omega) | exact ((reads_at _ _ (chC ⟨dkey, true, dold, dis, dnew⟩) 1 _ (by simp) rfl).more (by first | (simp; omega) | simp | omega)).drew) (chC_one _) (by unfold maxLen; omega) (by omega) (by first | (simp; omega) | simp | omega) ?_; intro v1 w8 hown1 hg1 hat1)
                have hbel8 : Hid (Below w5.heap.size w5 w8) := Below.grown (hbel.out.trans (Below.mono (by (repeat' (first | with_reducible exact hb7.out | (with_reducible refine Below.setCell ?_ (by first | (simp; omega) | simp | omega) _) | (with_reducible refine Below.alloc ?_ (by first | (simp; omega) | simp | omega) _) | with_reducible refine below_drewN ?_ _ | with_reducible refine Below.drew ?_))) hsz)) hg1 (by first | (simp; omega) | simp | omega) (fun q hq => (hown.out.lt q hq).1)
                have hown2 : Hid (w8.ownsRow w5.heap.size 37 5 v1 (os ++ [(⟨dkey, true, dold, dis, dnew⟩ : Chg)]).length (chs (os ++ [(⟨dkey, true, dold, dis, dnew⟩ : Chg)]))) := by
                  unfold Hid
                  rw [List.length_append]
                  exact own_snoc hown1
                clear hown1 hg1 hat1
                go_wp2
                go_roundw
                case rel => exact ⟨j + 1, _, by omega, by go_num, by simp; omega, hown2, hbel8, hT2⟩
                case measure => simp [intOf]; omega
                
          · obtain ⟨key, was, old, is, new⟩ := c
            have hE := f1 _ hla
            dsimp only [chV] at hE
            subst hE
            have hLa := Lib.hid hla
            clear f1 f2 hla
            go_wp2_with fail
            refine (find_any b x A' m cb (w6.alloc (.cells #[.int .u64 key, .bool was, .int .u64 old, .bool is, .int .u64 new] 37)) (by exact (hrb.out.below ((hbel.out.trans (hb6.out.mono hsz)).alloc (by omega) _)).more (by simp; omega)) (by omega)).mono ?_
            rintro e w7 ⟨f1, f2, hb⟩
            have hb7 : Hid (Below wr.heap.size wr w7) := (hb6.out.alloc hs6 _).trans (hb.mono (by simp; omega))
            have hs7 : w6.heap.size < w7.heap.size := by have := hb.size; simp at this; omega
            have hB : Hid (Blk w7 w6.heap.size 37 #[.int .u64 key, .bool was, .int .u64 old, .bool is, .int .u64 new]) := (Blk.new w6 _ _).below hb (by simp)
            have C0 := hB.out.cell 0
            have C1 := hB.out.cell 1
            have C2 := hB.out.cell 2
            have C3 := hB.out.cell 3
            have C4 := hB.out.cell 4
            have F0 := hB.out.frozen 0
            have F1 := hB.out.frozen 1
            have F2 := hB.out.frozen 2
            have F3 := hB.out.frozen 3
            have F4 := hB.out.frozen 4
            simp at C0 C1 C2 C3 C4
            have hne67 : w6.heap.size ≠ w7.heap.size := by omega
            have hne76 : w7.heap.size ≠ w6.heap.size := by omega
            clear hb
            rcases hlb : look Chg.key b x with _ | d
            · have hE := f2 hlb
              dsimp only [chV] at hE
              subst hE
              have HC : ¬ Clash (look Chg.key a x) (look Chg.key b x) := by rw [hlb]; exact clash_right
              have HZ : stepAt (look Chg.key a x) (look Chg.key b x) = ⟨key, was, old, is, new⟩ := by rw [hLa.out, hlb]; rfl
              clear f1 f2 hlb
              rcases was with _ | _
              · rcases is with _ | _
                · have hT2 := Lib.hid (r_skip hT.out hX.out HC HZ (z := ⟨key, false, old, false, new⟩) rfl)
                  clear HC HZ hT
                  go_wp2_with fail
                  go_roundw
                  case rel => exact ⟨j + 1, os, by omega, by go_num, by omega, by unfold Hid; exact own_below hown.out (by (repeat' (first | with_reducible exact hb7.out | (with_reducible refine Below.setCell ?_ (by first | (simp; omega) | simp | omega) _) | (with_reducible refine Below.alloc ?_ (by first | (simp; omega) | simp | omega) _) | with_reducible refine below_drewN ?_ _ | with_reducible refine Below.drew ?_))), by unfold Hid; exact hbel.out.trans (Below.mono (by (repeat' (first | with_reducible exact hb7.out | (with_reducible refine Below.setCell ?_ (by first | (simp; omega) | simp | omega) _) | (with_reducible refine Below.alloc ?_ (by first | (simp; omega) | simp | omega) _) | with_reducible refine below_drewN ?_ _ | with_reducible refine Below.drew ?_))) hsz), hT2⟩
                  case measure => simp [intOf]; omega
                  
                · have hT2 := Lib.hid (r_put hT.out hX.out HC HZ (z := ⟨key, false, old, true, new⟩) rfl)
                  clear HC HZ hT
                  go_wp2_with (at_builtin; refine wpList_append_any _ rfl (.tmp 81) (.tmp 83) 27 rfl w5.heap.size 37 i0 _ 5 40 Try.underlying27 hi0 hz0 hz1 hz2 rfl (by decide) u7 os.length (chs os) rfl (by exact own_below hown.out (by (repeat' (first | with_reducible exact hb7.out | (with_reducible refine Below.setCell ?_ (by first | (simp; omega) | simp | omega) _) | (with_reducible refine Below.alloc ?_ (by first | (simp; omega) | simp | omega) _) | with_reducible refine below_drewN ?_ _ | with_reducible refine Below.drew ?_)))) (w7.heap.size + 2) (some ⟨w7.heap.size + 1, 0, none⟩) 1 1 (chC ⟨key, false, old, true, new⟩) rfl (by first | exact (reads_at _ _ (chC ⟨key, false, old, true, new⟩) 1 _ (by simp) rfl).more (by first | (simp; omega) | simp | omega) | exact ((reads_at _ _ (chC ⟨key, false, old, true, new⟩) 1 _ (by simp) rfl).more (by first | (simp; omega) | simp | omega)).drew) (chC_one _) (by unfold maxLen; omega) (by omega) (by first | (simp; omega) | simp | omega) ?_; intro v1 w8 hown1 hg1 hat1)
                  have hbel8 : Hid (Below w5.heap.size w5 w8) := Below.grown (hbel.out.trans (Below.mono (by (repeat' (first | with_reducible exact hb7.out | (with_reducible refine Below.setCell ?_ (by first | (simp; omega) | simp | omega) _) | (with_reducible refine Below.alloc ?_ (by first | (simp; omega) | simp | omega) _) | with_reducible refine below_drewN ?_ _ | with_reducible refine Below.drew ?_))) hsz)) hg1 (by first | (simp; omega) | simp | omega) (fun q hq => (hown.out.lt q hq).1)
                  have hown2 : Hid (w8.ownsRow w5.heap.size 37 5 v1 (os ++ [(⟨key, false, old, true, new⟩ : Chg)]).length (chs (os ++ [(⟨key, false, old, true, new⟩ : Chg)]))) := by
                    unfold Hid
                    rw [List.length_append]
                    exact own_snoc hown1
                  clear hown1 hg1 hat1
                  go_wp2
                  go_roundw
                  case rel => exact ⟨j + 1, _, by omega, by go_num, by simp; omega, hown2, hbel8, hT2⟩
                  case measure => simp [intOf]; omega
                  
              · have hT2 := Lib.hid (r_put hT.out hX.out HC HZ (z := ⟨key, true, old, is, new⟩) rfl)
                clear HC HZ hT
                go_wp2_with (at_builtin; refine wpList_append_any _ rfl (.tmp 81) (.tmp 83) 27 rfl w5.heap.size 37 i0 _ 5 40 Try.underlying27 hi0 hz0 hz1 hz2 rfl (by decide) u7 os.length (chs os) rfl (by exact own_below hown.out (by (repeat' (first | with_reducible exact hb7.out | (with_reducible refine Below.setCell ?_ (by first | (simp; omega) | simp | omega) _) | (with_reducible refine Below.alloc ?_ (by first | (simp; omega) | simp | omega) _) | with_reducible refine below_drewN ?_ _ | with_reducible refine Below.drew ?_)))) (w7.heap.size + 2) (some ⟨w7.heap.size + 1, 0, none⟩) 1 1 (chC ⟨key, true, old, is, new⟩) rfl (by first | exact (reads_at _ _ (chC ⟨key, true, old, is, new⟩) 1 _ (by simp) rfl).more (by first | (simp; omega) | simp | omega) | exact ((reads_at _ _ (chC ⟨key, true, old, is, new⟩) 1 _ (by simp) rfl).more (by first | (simp; omega) | simp | omega)).drew) (chC_one _) (by unfold maxLen; omega) (by omega) (by first | (simp; omega) | simp | omega) ?_; intro v1 w8 hown1 hg1 hat1)
                have hbel8 : Hid (Below w5.heap.size w5 w8) := Below.grown (hbel.out.trans (Below.mono (by (repeat' (first | with_reducible exact hb7.out | (with_reducible refine Below.setCell ?_ (by first | (simp; omega) | simp | omega) _) | (with_reducible refine Below.alloc ?_ (by first | (simp; omega) | simp | omega) _) | with_reducible refine below_drewN ?_ _ | with_reducible refine Below.drew ?_))) hsz)) hg1 (by first | (simp; omega) | simp | omega) (fun q hq => (hown.out.lt q hq).1)
                have hown2 : Hid (w8.ownsRow w5.heap.size 37 5 v1 (os ++ [(⟨key, true, old, is, new⟩ : Chg)]).length (chs (os ++ [(⟨key, true, old, is, new⟩ : Chg)]))) := by
                  unfold Hid
                  rw [List.length_append]
                  exact own_snoc hown1
                clear hown1 hg1 hat1
                go_wp2
                go_roundw
                case rel => exact ⟨j + 1, _, by omega, by go_num, by simp; omega, hown2, hbel8, hT2⟩
                case measure => simp [intOf]; omega
                
            · obtain ⟨dkey, dwas, dold, dis, dnew⟩ := d
              have hE := f1 _ hlb
              dsimp only [chV] at hE
              subst hE
              have hLb := Lib.hid hlb
              clear f1 f2 hlb
              by_cases hmt : is = dwas ∧ new = dold
              · obtain ⟨rfl, rfl⟩ := hmt
                have HC : ¬ Clash (look Chg.key a x) (look Chg.key b x) := by
                  rw [hLa.out, hLb.out]
                  rintro ⟨p, q, h1, h2, h3⟩
                  cases h1
                  cases h2
                  exact h3 ⟨rfl, rfl⟩
                have HZ : stepAt (look Chg.key a x) (look Chg.key b x) = ⟨key, was, old, dis, dnew⟩ := by rw [hLa.out, hLb.out]; rfl
                have hmw : (is != is) = false := by simp
                have hmn : (new != new) = false := by simp
                go_wp2_with fail
                go_region
                rcases was with _ | _
                · rcases dis with _ | _
                  · have hT2 := Lib.hid (r_skip hT.out hX.out HC HZ (z := ⟨key, false, old, false, dnew⟩) rfl)
                    clear HC HZ hT
                    go_wp2_with fail
                    go_roundw
                    case rel => exact ⟨j + 1, os, by omega, by go_num, by omega, by unfold Hid; exact own_below hown.out (by (repeat' (first | with_reducible exact hb7.out | (with_reducible refine Below.setCell ?_ (by first | (simp; omega) | simp | omega) _) | (with_reducible refine Below.alloc ?_ (by first | (simp; omega) | simp | omega) _) | with_reducible refine below_drewN ?_ _ | with_reducible refine Below.drew ?_))), by unfold Hid; exact hbel.out.trans (Below.mono (by (repeat' (first | with_reducible exact hb7.out | (with_reducible refine Below.setCell ?_ (by first | (simp; omega) | simp | omega) _) | (with_reducible refine Below.alloc ?_ (by first | (simp; omega) | simp | omega) _) | with_reducible refine below_drewN ?_ _ | with_reducible refine Below.drew ?_))) hsz), hT2⟩
                    case measure => simp [intOf]; omega
                    
                  · have hT2 := Lib.hid (r_put hT.out hX.out HC HZ (z := ⟨key, false, old, true, dnew⟩) rfl)
                    clear HC HZ hT
                    go_wp2_with (at_builtin; refine wpList_append_any _ rfl (.tmp 81) (.tmp 83) 27 rfl w5.heap.size 37 i0 _ 5 40 Try.underlying27 hi0 hz0 hz1 hz2 rfl (by decide) u7 os.length (chs os) rfl (by exact own_below hown.out (by (repeat' (first | with_reducible exact hb7.out | (with_reducible refine Below.setCell ?_ (by first | (simp; omega) | simp | omega) _) | (with_reducible refine Below.alloc ?_ (by first | (simp; omega) | simp | omega) _) | with_reducible refine below_drewN ?_ _ | with_reducible refine Below.drew ?_)))) (w7.heap.size + 2) (some ⟨w7.heap.size + 1, 0, none⟩) 1 1 (chC ⟨key, false, old, true, dnew⟩) rfl (by first | exact (reads_at _ _ (chC ⟨key, false, old, true, dnew⟩) 1 _ (by simp) rfl).more (by first | (simp; omega) | simp | omega) | exact ((reads_at _ _ (chC ⟨key, false, old, true, dnew⟩) 1 _ (by simp) rfl).more (by first | (simp; omega) | simp | omega)).drew) (chC_one _) (by unfold maxLen; omega) (by omega) (by first | (simp; omega) | simp | omega) ?_; intro v1 w8 hown1 hg1 hat1)
                    have hbel8 : Hid (Below w5.heap.size w5 w8) := Below.grown (hbel.out.trans (Below.mono (by (repeat' (first | with_reducible exact hb7.out | (with_reducible refine Below.setCell ?_ (by first | (simp; omega) | simp | omega) _) | (with_reducible refine Below.alloc ?_ (by first | (simp; omega) | simp | omega) _) | with_reducible refine below_drewN ?_ _ | with_reducible refine Below.drew ?_))) hsz)) hg1 (by first | (simp; omega) | simp | omega) (fun q hq => (hown.out.lt q hq).1)
                    have hown2 : Hid (w8.ownsRow w5.heap.size 37 5 v1 (os ++ [(⟨key, false, old, true, dnew⟩ : Chg)]).length (chs (os ++ [(⟨key, false, old, true, dnew⟩ : Chg)]))) := by
                      unfold Hid
                      rw [List.length_append]
                      exact own_snoc hown1
                    clear hown1 hg1 hat1
                    go_wp2
                    go_roundw
                    case rel => exact ⟨j + 1, _, by omega, by go_num, by simp; omega, hown2, hbel8, hT2⟩
                    case measure => simp [intOf]; omega
                    
                · have hT2 := Lib.hid (r_put hT.out hX.out HC HZ (z := ⟨key, true, old, dis, dnew⟩) rfl)
                  clear HC HZ hT
                  go_wp2_with (at_builtin; refine wpList_append_any _ rfl (.tmp 81) (.tmp 83) 27 rfl w5.heap.size 37 i0 _ 5 40 Try.underlying27 hi0 hz0 hz1 hz2 rfl (by decide) u7 os.length (chs os) rfl (by exact own_below hown.out (by (repeat' (first | with_reducible exact hb7.out | (with_reducible refine Below.setCell ?_ (by first | (simp; omega) | simp | omega) _) | (with_reducible refine Below.alloc ?_ (by first | (simp; omega) | simp | omega) _) | with_reducible refine below_drewN ?_ _ | with_reducible refine Below.drew ?_)))) (w7.heap.size + 2) (some ⟨w7.heap.size + 1, 0, none⟩) 1 1 (chC ⟨key, true, old, dis, dnew⟩) rfl (by first | exact (reads_at _ _ (chC ⟨key, true, old, dis, dnew⟩) 1 _ (by simp) rfl).more (by first | (simp; omega) | simp | omega) | exact ((reads_at _ _ (chC ⟨key, true, old, dis, dnew⟩) 1 _ (by simp) rfl).more (by first | (simp; omega) | simp | omega)).drew) (chC_one _) (by unfold maxLen; omega) (by omega) (by first | (simp; omega) | simp | omega) ?_; intro v1 w8 hown1 hg1 hat1)
                  have hbel8 : Hid (Below w5.heap.size w5 w8) := Below.grown (hbel.out.trans (Below.mono (by (repeat' (first | with_reducible exact hb7.out | (with_reducible refine Below.setCell ?_ (by first | (simp; omega) | simp | omega) _) | (with_reducible refine Below.alloc ?_ (by first | (simp; omega) | simp | omega) _) | with_reducible refine below_drewN ?_ _ | with_reducible refine Below.drew ?_))) hsz)) hg1 (by first | (simp; omega) | simp | omega) (fun q hq => (hown.out.lt q hq).1)
                  have hown2 : Hid (w8.ownsRow w5.heap.size 37 5 v1 (os ++ [(⟨key, true, old, dis, dnew⟩ : Chg)]).length (chs (os ++ [(⟨key, true, old, dis, dnew⟩ : Chg)]))) := by
                    unfold Hid
                    rw [List.length_append]
                    exact own_snoc hown1
                  clear hown1 hg1 hat1
                  go_wp2
                  go_roundw
                  case rel => exact ⟨j + 1, _, by omega, by go_num, by simp; omega, hown2, hbel8, hT2⟩
                  case measure => simp [intOf]; omega
                  
              · have hT2 := Lib.hid (r_clash hT.out hX.out hLa.out hLb.out hmt)
                have hT3 : Hid (thn a b = none) := hT2
                have hfin : Hid (Below w.heap.size w wr) := hb5.out.trans (hbel.out.mono hb5.out.size)
                have hs5 := hb5.out.size
                by_cases hw1 : is = dwas
                · have hmn : (new != dold) = true := by
                    simp only [bne_iff_ne, ne_eq]
                    exact fun h => hmt ⟨hw1, h⟩
                  subst hw1
                  have hmw : (is != is) = false := by simp
                  clear hmt
                  go_wp2_with fail
                  go_ret2
                  exact ⟨fun h => absurd ⟨hPa.out, hPb.out⟩ h, fun _ _ => rfl, (fun h r hr => by rw [hT3.out] at hr; cases hr), hfin.out.trans (Below.mono (B := wr.heap.size) (by (repeat' (first | with_reducible exact hb7.out | (with_reducible refine Below.setCell ?_ (by first | (simp; omega) | simp | omega) _) | (with_reducible refine Below.alloc ?_ (by first | (simp; omega) | simp | omega) _) | with_reducible refine below_drewN ?_ _ | with_reducible refine Below.drew ?_))) (by omega))⟩
                · have hmw : (is != dwas) = true := by simpa using hw1
                  clear hmt
                  go_wp2_with fail
                  go_ret2
                  exact ⟨fun h => absurd ⟨hPa.out, hPb.out⟩ h, fun _ _ => rfl, (fun h r hr => by rw [hT3.out] at hr; cases hr), hfin.out.trans (Below.mono (B := wr.heap.size) (by (repeat' (first | with_reducible exact hb7.out | (with_reducible refine Below.setCell ?_ (by first | (simp; omega) | simp | omega) _) | (with_reducible refine Below.alloc ?_ (by first | (simp; omega) | simp | omega) _) | with_reducible refine below_drewN ?_ _ | with_reducible refine Below.drew ?_))) (by omega))⟩
        · obtain rfl : j = K := by omega
          have hres := Lib.hid (r_done hT.out (by have := hKl.out; omega))
          have hO := Lib.hid (own_base hown.out hb5.out.size)
          obtain ⟨A', c', rfl, _⟩ := own_form hown.out
          have hfin : Hid (Below w.heap.size w wr) := hb5.out.trans (hbel.out.mono hb5.out.size)
          go_wp2
          go_ret2
          refine ⟨fun h => absurd ⟨hPa.out, hPb.out⟩ h, fun _ h => ?_, fun _ r hr => ?_, hfin.out⟩
          · rw [hres.out] at h; cases h
          · obtain rfl := Option.some.inj (hres.out.symm.trans hr)
            exact ⟨A', c', rfl, hO.out⟩
    · obtain rfl := h2 hp
      have hP := Lib.hid hp
      clear h1 h2 hp
      go_wp2
      go_ret2
      exact ⟨fun _ => rfl, fun h => absurd h.2 hP.out, fun h => absurd h.2 hP.out, hb2.out⟩
  · obtain rfl := h2 hp
    have hP := Lib.hid hp
    clear h1 h2 hp
    go_wp2
    go_ret2
    exact ⟨fun _ => rfl, fun h => absurd h.1 hP.out, fun h => absurd h.1 hP.out, hb1.out⟩
end Go.Proofs.Ytlaocajjenfgpaa
