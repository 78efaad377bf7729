/- plan.Then, walked. -/
import Derived.Test.YtlaocajjenfgpaaInv
import Derived.Test.YtlaocajjenfgpaaThenM
import Derived.Test.YtlaocajjenfgpaaDraws
namespace Go.Proofs.Ytlaocajjenfgpaa
open Go Go.RowKit
set_option linter.unusedVariables false

theorem drop_get {α : Type} {l : List α} {k : Nat} {x : α} (h : l[k]? = some x) : l.drop k = x :: l.drop (k + 1) := by
  obtain ⟨h1, rfl⟩ := List.getElem?_eq_some_iff.1 h
  exact List.drop_eq_getElem_cons h1
theorem thnIn_cons (c : Chg) (f : List Chg → Option (List Chg)) (d : Chg) (b : List Chg) : thnIn c f (d :: b) =
    if d.key < c.key then (thnIn c f b).map (d :: ·)
    else if d.key = c.key then (if Meet c d then (f b).map (fun r => if (c.was || d.is) = true then joinC c d :: r else r) else none)
    else (f (d :: b)).map (c :: ·) := rfl
section
variable {T : Option (List Chg)} {c d : Chg} {f : List Chg → Option (List Chg)} {b os : List Chg} {k : Nat}
theorem then_less (h : T = (thnIn c f (b.drop k)).map (os ++ ·)) (hd : b[k]? = some d) (hk : d.key < c.key) : T = (thnIn c f (b.drop (k + 1))).map ((os ++ [d]) ++ ·) := by
  rw [h, drop_get hd, thnIn_cons, if_pos hk, Option.map_map]
  congr 1
  funext r
  simp
theorem then_out (h : T = (thnIn c f (b.drop k)).map (os ++ ·)) (hk : b.length ≤ k) : T = (f (b.drop k)).map ((os ++ [c]) ++ ·) := by
  rw [h, List.drop_of_length_le hk]
  unfold thnIn
  rw [Option.map_map]
  congr 1
  funext r
  simp
theorem then_more (h : T = (thnIn c f (b.drop k)).map (os ++ ·)) (hd : b[k]? = some d) (hk : c.key < d.key) : T = (f (b.drop k)).map ((os ++ [c]) ++ ·) := by
  rw [h, drop_get hd, thnIn_cons, if_neg (by omega), if_neg (by omega), Option.map_map]
  congr 1
  funext r
  simp
theorem then_join (h : T = (thnIn c f (b.drop k)).map (os ++ ·)) (hd : b[k]? = some d) (hk : d.key = c.key) (hm : Meet c d) (hw : (c.was || d.is) = true) : T = (f (b.drop (k + 1))).map ((os ++ [joinC c d]) ++ ·) := by
  rw [h, drop_get hd, thnIn_cons, if_neg (by omega), if_pos hk, if_pos hm, Option.map_map]
  congr 1
  funext r
  simp [hw]
theorem then_gone (h : T = (thnIn c f (b.drop k)).map (os ++ ·)) (hd : b[k]? = some d) (hk : d.key = c.key) (hm : Meet c d) (hw : (c.was || d.is) = false) : T = (f (b.drop (k + 1))).map (os ++ ·) := by
  rw [h, drop_get hd, thnIn_cons, if_neg (by omega), if_pos hk, if_pos hm, Option.map_map]
  congr 1
  funext r
  simp [hw]
theorem then_clash (h : T = (thnIn c f (b.drop k)).map (os ++ ·)) (hd : b[k]? = some d) (hk : d.key = c.key) (hm : ¬ Meet c d) : T = none := by
  rw [h, drop_get hd, thnIn_cons, if_neg (by omega), if_pos hk, if_neg hm]
  rfl
end

/-- What Then returns. -/
def ThenEnd (a b : List Chg) (w : World) (e : Ending) (w' : World) : Prop :=
  (¬ (Plan a ∧ Plan b) → e = .returned (.tuple #[.slice none 0 0, .int .i64 2])) ∧ (Plan a ∧ Plan b → thn a b = none → e = .returned (.tuple #[.slice none 0 0, .int .i64 8])) ∧
  (Plan a ∧ Plan b → ∀ r, thn a b = some r → ∃ A c, e = .returned (.tuple #[.slice A r.length c, .int .i64 0]) ∧ w'.ownsRow w.heap.size 37 5 (.slice A r.length c) r.length (chs r)) ∧ Below w.heap.size w w'

theorem chC_one (c : Chg) : ∀ u ∈ chC c, u.oneCell' = true := by rw [← chs_one1]; exact chs_one _
/-- An owned list of changes, one longer. -/
theorem own_snoc {w : World} {base n : Nat} {v : Value} {os : List Chg} {c : Chg} (h : w.ownsRow base 37 5 v (n + 1) (chs os ++ chC c)) : w.ownsRow base 37 5 v (n + 1) (chs (os ++ [c])) := by
  rw [chs_append, chs_one1]
  exact h

set_option maxRecDepth 100000 in
set_option maxHeartbeats 4000000 in
theorem then_any (a b : List Chg) (A A' : Option Addr) (n m ca cb : Nat) (w : World) (hr : Hid (Reads w w.heap.size 5 A n (chs a))) (hr' : Hid (Reads w w.heap.size 5 A' m (chs b))) (hn : n ≤ 100000) (hm : m ≤ 100000) (hcb : m ≤ cb) (hcb' : cb ≤ 9223372036854775807) :
    Calls Try.prog 18 #[.slice A n ca, .slice A' m cb] w (ThenEnd a b w) := by
  obtain ⟨i0, hi0, hz0, hz1, hz2⟩ := info_parts infoChg
  have hla := Lib.hid (chs_n hr.out)
  have hlb := Lib.hid (chs_n hr'.out)
  go_enter Try.func18, Try.ntmps18
  go_wp2_with fail
  refine (check_any a A n ca w hr (by omega)).mono ?_
  rintro e w1 ⟨h1, h2, hb⟩
  have hb1 := Lib.hid hb
  clear hb
  by_cases hp : Plan a
  · obtain rfl := h1 hp
    clear h1 h2
    have hPa := Lib.hid hp
    clear hp
    go_wp2_with fail
    refine (check_any b A' m cb w1 ((hr'.out.below hb1.out).more hb1.out.size) (by omega)).mono ?_
    rintro e w2 ⟨h1, h2, hb⟩
    have hb2 : Hid (Below w.heap.size w w2) := hb1.out.trans (hb.mono hb1.out.size)
    clear hb hb1
    by_cases hp : Plan b
    · obtain rfl := h1 hp
      clear h1 h2
      have hPb := Lib.hid hp
      clear hp
      go_wp2_with fail
      go_loopw [6, 7, 21] (fun v q i wr => ∃ (j k : Nat) (os : List Chg), j ≤ n ∧ k ≤ m ∧ i = .int .i64 j ∧ q = .int .i64 k ∧ os.length ≤ j + k ∧ Hid (wr.ownsRow w.heap.size 37 5 v os.length (chs os)) ∧ Hid (Below w.heap.size w wr) ∧ Hid (thn a b = (thn (a.drop j) (b.drop k)).map (os ++ ·))) (fun _ _ i _ => n - (intOf i).toNat)
      case atStart => exact ⟨0, 0, [], by omega, by omega, rfl, rfl, by simp, World.ownsRow_nil _ _ _ _, hb2.out, by unfold Hid; simp⟩
      case round =>
        obtain ⟨j, k, os, hj, hk, rfl, rfl, hos, hown, hbel, hT⟩ := hrel
        have hsz := Lib.hid hbel.out.size
        by_cases hlt : j < n
        · obtain ⟨ba, oa, rfl, hbB⟩ := reads_head hr.out (by omega) (by decide)
          obtain ⟨c, hx, c0, c1, c2, c3, c4⟩ := chs_at (hr.out.below hbel.out) hlt
          have hT1 : Hid (thn a b = (thnIn c (thn (a.drop (j + 1))) (b.drop k)).map (os ++ ·)) := by
            unfold Hid
            rw [hT.out, drop_get hx]
            rfl
          obtain ⟨key, was, old, is, new⟩ := c
          dsimp only at c0 c1 c2 c3 c4
          have j0 : (0 : Int) ≤ (j : Int) := by omega
          have j1 : (j : Int) < (n : Int) := by omega
          have hbw : ba < wr.heap.size := by have := hsz.out; omega
          clear hx hT
          go_wp2_with fail
          clear c0 c1 c2 c3 c4
          obtain ⟨wo, hwo⟩ : ∃ wo : World, wo = wr := ⟨_, rfl⟩
          subst hwo
          go_loopw [6, 7] (fun v q wr => ∃ (k : Nat) (os : List Chg), k ≤ m ∧ q = .int .i64 k ∧ os.length ≤ j + k ∧ Hid (wr.ownsRow w.heap.size 37 5 v os.length (chs os)) ∧ Hid (Below w.heap.size w wr) ∧ Hid (thn a b = (thnIn ⟨key, was, old, is, new⟩ (thn (a.drop (j + 1))) (b.drop k)).map (os ++ ·)) ∧
              Hid (Blk wr wo.heap.size 37 #[.int .u64 key, .bool was, .int .u64 old, .bool is, .int .u64 new]) ∧ Hid (v.ownBlock ≠ some wo.heap.size)) (fun _ q _ => m - (intOf q).toNat)
          case atStart => exact ⟨k, os, hk, rfl, hos, hown.out.alloc _, hbel.out.alloc hsz.out _, hT1.out, Blk.new wo _ _, fun h => by have := (hown.out.lt _ h).2; omega⟩
          case round =>
            clear hown hbel hT1 hos hk hsz
            obtain ⟨k, os, hk, rfl, hos, hown, hbel, hT, hB, hne⟩ := hrel
            have hsz := Lib.hid hbel.out.size
            have hlo : os.length ≤ 200000 := by omega
            have C0 := hB.out.cell 0
            have C1 := hB.out.cell 1
            have C2 := hB.out.cell 2
            have C3 := hB.out.cell 3
            have C4 := hB.out.cell 4
            have hgl := hB.out.lt
            simp at C0 C1 C2 C3 C4
            have q0 : (0 : Int) ≤ (k : Int) := by omega
            by_cases hlt2 : k < m
            · obtain ⟨bb, ob, rfl, hbB'⟩ := reads_head hr'.out (by omega) (by decide)
              obtain ⟨d, hx, d0, d1, d2, d3, d4⟩ := chs_at (hr'.out.below hbel.out) hlt2
              have hX := Lib.hid hx
              obtain ⟨dkey, dwas, dold, dis, dnew⟩ := d
              dsimp only at d0 d1 d2 d3 d4
              have q1 : (k : Int) < (m : Int) := by omega
              have hbw2 : bb < wr.heap.size := by have := hsz.out; omega
              clear hx
              rcases Int.lt_trichotomy dkey key with hlk | hek | hgk
              · -- the second plan's change comes first
                have hT2 := Lib.hid (then_less hT.out hX.out hlk)
                go_wp2_with fail
                go_quiet (fail)
                go_wp2_with (at_builtin; refine wpList_append_any _ rfl (.tmp 39) (.tmp 44) 27 rfl w.heap.size 37 i0 _ 5 40 Try.underlying27 hi0 hz0 hz1 hz2 rfl (by decide) u6 os.length (chs os) rfl (own_drewN (hown.out.alloc _) _) (wr.heap.size + 1) (some ⟨wr.heap.size, 0, none⟩) 1 1 (chC ⟨dkey, dwas, dold, dis, dnew⟩) rfl (((reads_at wr _ (chC ⟨dkey, dwas, dold, dis, dnew⟩) 1 _ rfl rfl).more (by simp)).drewN _) (chC_one _) (by unfold maxLen; omega) (by omega) (by have := hsz.out; simp; omega) ?_; intro v1 w3 hown1 hg1 hat1)
                have hbel' : Hid (Below w.heap.size w w3) := (below_drewN (hbel.out.alloc hsz.out _) _).grown hg1 (by have := hsz.out; simp; omega) (fun q hq => (hown.out.lt q hq).1)
                have hown2 : Hid (w3.ownsRow w.heap.size 37 5 v1 (os ++ [(⟨dkey, dwas, dold, dis, dnew⟩ : Chg)]).length (chs (os ++ [(⟨dkey, dwas, dold, dis, dnew⟩ : Chg)]))) := by
                  unfold Hid
                  rw [List.length_append]
                  exact own_snoc hown1
                have hB' : Hid (Blk w3 wo.heap.size 37 #[.int .u64 key, .bool was, .int .u64 old, .bool is, .int .u64 new]) := ((hB.out.alloc _).drewN _).grown hg1 (fun h => hne.out h.symm)
                have hne' : Hid (v1.ownBlock ≠ some wo.heap.size) := by
                  rcases hat1 with h | h
                  · rw [h]; exact hne.out
                  · rw [h]; intro h2; have h3 := hB.out.lt; simp at h2; omega
                clear hown1 hg1 hat1
                go_wp2
                go_roundw
                case rel => exact ⟨k + 1, _, by omega, by go_num, by simp; omega, hown2, hbel', hT2, hB', hne'⟩
                case measure => simp [intOf]; omega
              · -- one key
                subst hek
                have hd1 : decide (dkey < dkey) = false := by simp
                have hd2 : (dkey != dkey) = false := by simp
                have hd3 : ((k : Int) == (m : Int)) = false := by simp; omega
                by_cases hmt : is = dwas ∧ new = dold
                · obtain ⟨rfl, rfl⟩ := hmt
                  have hmw : (is != is) = false := by simp
                  have hmn : (new != new) = false := by simp
                  rcases hws : (was || dis) with _ | _
                  · -- nothing is left of the key
                    obtain ⟨rfl, rfl⟩ : was = false ∧ dis = false := by simpa using hws
                    have hT2 := Lib.hid (then_gone hT.out hX.out rfl ⟨rfl, rfl⟩ hws)
                    clear hws
                    go_wp2_with fail
                    go_quiet (fail)
                    go_wp2_with fail
                    go_quiet (fail)
                    go_wp2_with fail
                    go_roundw
                    case rel => exact ⟨j + 1, k + 1, os, by omega, by omega, by go_num, by go_num, by omega, own_drewN (hown.out.alloc _) _, below_drewN (hbel.out.alloc hsz.out _) _, hT2⟩
                    case measure => simp [intOf]; omega
                  · have hT2 := Lib.hid (then_join hT.out hX.out rfl ⟨rfl, rfl⟩ hws)
                    rcases (by simpa using hws : was = true ∨ dis = true) with rfl | rfl
                    · clear hws
                      go_wp2_with fail
                      go_quiet (fail)
                      go_wp2_with fail
                      go_quiet (fail)
                      go_wp2_with (at_builtin; refine wpList_append_any _ rfl (.tmp 90) (.tmp 102) 27 rfl w.heap.size 37 i0 _ 5 40 Try.underlying27 hi0 hz0 hz1 hz2 rfl (by decide) u6 os.length (chs os) rfl (own_drewN ((hown.out.alloc _).alloc _) _) (wr.heap.size + 2) (some ⟨wr.heap.size + 1, 0, none⟩) 1 1 (chC (⟨dkey, true, old, dis, dnew⟩ : Chg)) rfl (((reads_at (wr.alloc _) _ (chC (⟨dkey, true, old, dis, dnew⟩ : Chg)) 1 _ (by simp) rfl).more (by simp)).drewN _) (chC_one _) (by unfold maxLen; omega) (by omega) (by have := hsz.out; simp; omega) ?_; intro v1 w3 hown1 hg1 hat1)
                      have hbel' : Hid (Below w.heap.size w w3) := (below_drewN ((hbel.out.alloc hsz.out _).alloc (by have := hsz.out; simp; omega) _) _).grown hg1 (by have := hsz.out; simp; omega) (fun q hq => (hown.out.lt q hq).1)
                      have hown2 : Hid (w3.ownsRow w.heap.size 37 5 v1 (os ++ [(⟨dkey, true, old, dis, dnew⟩ : Chg)]).length (chs (os ++ [(⟨dkey, true, old, dis, dnew⟩ : Chg)]))) := by
                        unfold Hid
                        rw [List.length_append]
                        exact own_snoc hown1
                      clear hown1 hg1 hat1
                      go_wp2
                      go_roundw
                      case rel => exact ⟨j + 1, k + 1, _, by omega, by omega, by go_num, by go_num, by simp; omega, hown2, hbel', hT2⟩
                      case measure => simp [intOf]; omega
                    · clear hws
                      rcases was with _ | _
                      · go_wp2_with fail
                        go_quiet (fail)
                        go_wp2_with fail
                        go_quiet (fail)
                        go_wp2_with (at_builtin; refine wpList_append_any _ rfl (.tmp 90) (.tmp 102) 27 rfl w.heap.size 37 i0 _ 5 40 Try.underlying27 hi0 hz0 hz1 hz2 rfl (by decide) u6 os.length (chs os) rfl (own_drewN ((hown.out.alloc _).alloc _) _) (wr.heap.size + 2) (some ⟨wr.heap.size + 1, 0, none⟩) 1 1 (chC (⟨dkey, false, old, true, dnew⟩ : Chg)) rfl (((reads_at (wr.alloc _) _ (chC (⟨dkey, false, old, true, dnew⟩ : Chg)) 1 _ (by simp) rfl).more (by simp)).drewN _) (chC_one _) (by unfold maxLen; omega) (by omega) (by have := hsz.out; simp; omega) ?_; intro v1 w3 hown1 hg1 hat1)
                        have hbel' : Hid (Below w.heap.size w w3) := (below_drewN ((hbel.out.alloc hsz.out _).alloc (by have := hsz.out; simp; omega) _) _).grown hg1 (by have := hsz.out; simp; omega) (fun q hq => (hown.out.lt q hq).1)
                        have hown2 : Hid (w3.ownsRow w.heap.size 37 5 v1 (os ++ [(⟨dkey, false, old, true, dnew⟩ : Chg)]).length (chs (os ++ [(⟨dkey, false, old, true, dnew⟩ : Chg)]))) := by
                          unfold Hid
                          rw [List.length_append]
                          exact own_snoc hown1
                        clear hown1 hg1 hat1
                        go_wp2
                        go_roundw
                        case rel => exact ⟨j + 1, k + 1, _, by omega, by omega, by go_num, by go_num, by simp; omega, hown2, hbel', hT2⟩
                        case measure => simp [intOf]; omega
                      · go_wp2_with fail
                        go_quiet (fail)
                        go_wp2_with fail
                        go_quiet (fail)
                        go_wp2_with (at_builtin; refine wpList_append_any _ rfl (.tmp 90) (.tmp 102) 27 rfl w.heap.size 37 i0 _ 5 40 Try.underlying27 hi0 hz0 hz1 hz2 rfl (by decide) u6 os.length (chs os) rfl (own_drewN ((hown.out.alloc _).alloc _) _) (wr.heap.size + 2) (some ⟨wr.heap.size + 1, 0, none⟩) 1 1 (chC (⟨dkey, true, old, true, dnew⟩ : Chg)) rfl (((reads_at (wr.alloc _) _ (chC (⟨dkey, true, old, true, dnew⟩ : Chg)) 1 _ (by simp) rfl).more (by simp)).drewN _) (chC_one _) (by unfold maxLen; omega) (by omega) (by have := hsz.out; simp; omega) ?_; intro v1 w3 hown1 hg1 hat1)
                        have hbel' : Hid (Below w.heap.size w w3) := (below_drewN ((hbel.out.alloc hsz.out _).alloc (by have := hsz.out; simp; omega) _) _).grown hg1 (by have := hsz.out; simp; omega) (fun q hq => (hown.out.lt q hq).1)
                        have hown2 : Hid (w3.ownsRow w.heap.size 37 5 v1 (os ++ [(⟨dkey, true, old, true, dnew⟩ : Chg)]).length (chs (os ++ [(⟨dkey, true, old, true, dnew⟩ : Chg)]))) := by
                          unfold Hid
                          rw [List.length_append]
                          exact own_snoc hown1
                        clear hown1 hg1 hat1
                        go_wp2
                        go_roundw
                        case rel => exact ⟨j + 1, k + 1, _, by omega, by omega, by go_num, by go_num, by simp; omega, hown2, hbel', hT2⟩
                        case measure => simp [intOf]; omega
                · have hT2 := Lib.hid (then_clash hT.out hX.out rfl hmt)
                  have hfin : Hid (ThenEnd a b w (.returned (.tuple #[.slice none 0 0, .int .i64 8])) wr) := ⟨fun h => absurd ⟨hPa.out, hPb.out⟩ h, fun _ _ => rfl, (fun _ r h => by rw [hT2.out] at h; cases h), hbel.out⟩
                  by_cases hw1 : is = dwas
                  · have hmn : (new != dold) = true := by
                      simp only [bne_iff_ne, ne_eq]
                      exact fun h => hmt ⟨hw1, h⟩
                    subst hw1
                    have hmw : (is != is) = false := by simp
                    clear hmt
                    go_wp2_with fail
                    go_quiet (fail)
                    go_wp2_with fail
                    go_quiet (fail)
                    go_wp2_with fail
                    go_ret2
                    exact ⟨hfin.out.1, hfin.out.2.1, (fun h r hr => by rw [hT2.out] at hr; cases hr), below_drewN (hbel.out.alloc hsz.out _) _⟩
                  · have hmw : (is != dwas) = true := by simpa using hw1
                    clear hmt
                    go_wp2_with fail
                    go_quiet (fail)
                    go_wp2_with fail
                    go_quiet (fail)
                    go_wp2_with fail
                    go_ret2
                    exact ⟨hfin.out.1, hfin.out.2.1, (fun h r hr => by rw [hT2.out] at hr; cases hr), below_drewN (hbel.out.alloc hsz.out _) _⟩
              · -- the first plan's change comes first
                have hT2 := Lib.hid (then_more hT.out hX.out hgk)
                have hd1 : decide (dkey < key) = false := by simp; omega
                have hd2 : (dkey != key) = true := by simp; omega
                have hd3 : ((k : Int) == (m : Int)) = false := by simp; omega
                go_wp2_with fail
                go_quiet (fail)
                go_wp2_with fail
                go_quiet (fail)
                go_wp2_with (at_builtin; refine wpList_append_any _ rfl (.tmp 62) (.tmp 64) 27 rfl w.heap.size 37 i0 _ 5 40 Try.underlying27 hi0 hz0 hz1 hz2 rfl (by decide) u6 os.length (chs os) rfl (own_drewN (hown.out.alloc _) _) (wr.heap.size + 1) (some ⟨wr.heap.size, 0, none⟩) 1 1 (chC ⟨key, was, old, is, new⟩) rfl (((reads_at wr _ (chC ⟨key, was, old, is, new⟩) 1 _ rfl rfl).more (by simp)).drewN _) (chC_one _) (by unfold maxLen; omega) (by omega) (by have := hsz.out; simp; omega) ?_; intro v1 w3 hown1 hg1 hat1)
                have hbel' : Hid (Below w.heap.size w w3) := (below_drewN (hbel.out.alloc hsz.out _) _).grown hg1 (by have := hsz.out; simp; omega) (fun q hq => (hown.out.lt q hq).1)
                have hown2 : Hid (w3.ownsRow w.heap.size 37 5 v1 (os ++ [(⟨key, was, old, is, new⟩ : Chg)]).length (chs (os ++ [(⟨key, was, old, is, new⟩ : Chg)]))) := by
                  unfold Hid
                  rw [List.length_append]
                  exact own_snoc hown1
                clear hown1 hg1 hat1
                go_wp2
                go_roundw
                case rel => exact ⟨j + 1, k, _, by omega, by omega, by go_num, by go_num, by simp; omega, hown2, hbel', hT2⟩
                case measure => simp [intOf]; omega
            · -- the second plan is at its end
              have hT2 := Lib.hid (then_out hT.out (by have := hlb.out; omega))
              have hd1 : decide ((k : Int) < (m : Int)) = false := by simp; omega
              have hd3 : ((k : Int) == (m : Int)) = true := by simp; omega
              go_wp2_with fail
              go_quiet (fail)
              go_wp2_with fail
              go_quiet (fail)
              go_wp2_with (at_builtin; refine wpList_append_any _ rfl (.tmp 62) (.tmp 64) 27 rfl w.heap.size 37 i0 _ 5 40 Try.underlying27 hi0 hz0 hz1 hz2 rfl (by decide) u6 os.length (chs os) rfl (own_drewN (hown.out.alloc _) _) (wr.heap.size + 1) (some ⟨wr.heap.size, 0, none⟩) 1 1 (chC ⟨key, was, old, is, new⟩) rfl (((reads_at wr _ (chC ⟨key, was, old, is, new⟩) 1 _ rfl rfl).more (by simp)).drewN _) (chC_one _) (by unfold maxLen; omega) (by omega) (by have := hsz.out; simp; omega) ?_; intro v1 w3 hown1 hg1 hat1)
              have hbel' : Hid (Below w.heap.size w w3) := (below_drewN (hbel.out.alloc hsz.out _) _).grown hg1 (by have := hsz.out; simp; omega) (fun q hq => (hown.out.lt q hq).1)
              have hown2 : Hid (w3.ownsRow w.heap.size 37 5 v1 (os ++ [(⟨key, was, old, is, new⟩ : Chg)]).length (chs (os ++ [(⟨key, was, old, is, new⟩ : Chg)]))) := by
                unfold Hid
                rw [List.length_append]
                exact own_snoc hown1
              clear hown1 hg1 hat1
              go_wp2
              go_roundw
              case rel => exact ⟨j + 1, k, _, by omega, by omega, by go_num, by go_num, by simp; omega, hown2, hbel', hT2⟩
              case measure => simp [intOf]; omega
        · obtain rfl : j = n := by omega
          have hres : Hid (thn a b = some (os ++ b.drop k)) := by
            unfold Hid
            rw [hT.out, List.drop_of_length_le (by have := hla.out; omega)]
            rfl
          have hlen : Hid ((os ++ b.drop k).length = os.length + (m - k)) := by unfold Hid; rw [List.length_append, List.length_drop, hlb.out]
          have hcut : Hid (Reads wr w.heap.size 5 (if cb = k then A' else A'.map (·.add (k * 5))) (m - k) (chs (b.drop k))) := by
            have h := (hr'.out.below hbel.out).cut hk hcb
            rw [chs, flat_drop chC 5 chC_len] at h
            exact h
          have hkc : (k : Int) ≤ (m : Int) := by omega
          have q0 : (0 : Int) ≤ (k : Int) := by omega
          go_wp2_with (at_builtin; refine wpList_append_any _ rfl (.tmp 105) (.tmp 108) 27 rfl w.heap.size 37 i0 _ 5 40 Try.underlying27 hi0 hz0 hz1 hz2 rfl (by decide) u6 os.length (chs os) rfl hown.out w.heap.size (if cb = k then A' else A'.map (·.add (k * 5))) (m - k) (cb - k) (chs (b.drop k)) rfl hcut.out (chs_one _) (by unfold maxLen; omega) (by omega) hsz.out ?_; intro v1 w3 hown1 hg1 hat1)
          all_goals
            have hbel' : Hid (Below w.heap.size w w3) := hbel.out.grown hg1 hsz.out (fun q hq => (hown.out.lt q hq).1)
            obtain ⟨A3, c3, rfl, _⟩ := own_form hown1
            have hO : Hid (w3.ownsRow w.heap.size 37 5 (.slice A3 (os.length + (m - k)) c3) (os.length + (m - k)) (chs (os ++ b.drop k))) := by
              unfold Hid
              rw [chs_append]
              exact hown1
            clear hown1 hg1 hat1 hcut
            try go_wp2
            go_ret2
            refine ⟨fun h => absurd ⟨hPa.out, hPb.out⟩ h, fun _ h => ?_, fun _ r hr => ⟨A3, c3, ?_, ?_⟩, hbel'.out⟩
            · rw [hres.out] at h; cases h
            · obtain rfl := Option.some.inj (hres.out.symm.trans hr)
              rw [hlen.out]
              rfl
            · obtain rfl := Option.some.inj (hres.out.symm.trans hr)
              rw [hlen.out]
              exact hO.out
    · obtain rfl := h2 hp
      have hP := Lib.hid hp
      clear h1 h2 hp
      go_wp2
      go_ret2
      exact ⟨fun _ => rfl, fun h => absurd h.2 hP.out, fun h => absurd h.2 hP.out, hb2.out⟩
  · obtain rfl := h2 hp
    have hP := Lib.hid hp
    clear h1 h2 hp
    go_wp2
    go_ret2
    exact ⟨fun _ => rfl, fun h => absurd h.1 hP.out, fun h => absurd h.1 hP.out, hb1.out⟩
end Go.Proofs.Ytlaocajjenfgpaa
