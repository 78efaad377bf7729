/- The reference's between, walked. -/
import Derived.Test.YtlaocajjenfgpaaRefMeth
import Derived.Test.YtlaocajjenfgpaaKeys
namespace Go.Proofs.Ytlaocajjenfgpaa
open Go Go.RowKit
set_option linter.unusedVariables false

theorem btw_take {a b : List Pr} {ks : List Int} {k : Nat} {x : Int} (h : ks[k]? = some x) : btw a b (ks.take (k + 1)) = btw a b (ks.take k) ++ [btwC a b x] := by
  unfold btw
  rw [List.take_add_one, h, List.map_append]
  rfl
theorem btw_len (a b : List Pr) (ks : List Int) : (btw a b ks).length = ks.length := List.length_map ..

set_option maxRecDepth 100000 in
set_option maxHeartbeats 2000000 in
theorem between_any (a b : List Pr) (ks : List Int) (A A' K : Option Addr) (n n' m c c' ck : Nat) (w : World) (hr : Hid (Reads w w.heap.size 2 A n (prs a))) (hr' : Hid (Reads w w.heap.size 2 A' n' (prs b))) (hk : Hid (Reads w w.heap.size 1 K m (us ks)))
    (hn : n ≤ 1000000 ∧ n ≤ c ∧ c ≤ 9223372036854775807) (hn' : n' ≤ 1000000 ∧ n' ≤ c' ∧ c' ≤ 9223372036854775807) (hm : m ≤ 1000000) :
    Calls Try.prog 43 #[.slice A n c, .slice A' n' c', .slice K m ck] w fun e w' => ∃ A1 c1, e = .returned (.slice A1 m c1) ∧ w'.ownsRow w.heap.size 37 5 (.slice A1 m c1) m (chs (btw a b ks)) ∧ Below w.heap.size w w' := by
  obtain ⟨i0, hi0, hz0, hz1, hz2⟩ := info_parts infoChg
  have hlen := Lib.hid (us_n hk.out)
  have hN := Lib.hid hn
  have hN' := Lib.hid hn'
  clear hn hn'
  go_enter Try.func43, Try.ntmps43
  go_wp2_with fail
  go_loopw [9, 10] (fun v i wr => ∃ k : Nat, k ≤ m ∧ i = .int .i64 k ∧ Hid (wr.ownsRow (w.heap.size + 2) 37 5 v k (chs (btw a b (ks.take k)))) ∧ Hid (Below w.heap.size w wr) ∧ Hid (Blk wr w.heap.size 72 #[.slice A n c]) ∧ Hid (Blk wr (w.heap.size + 1) 72 #[.slice A' n' c'])) (fun _ i _ => m - (intOf i).toNat)
  case atStart => exact ⟨0, by omega, rfl, World.ownsRow_nil _ _ _ _, ((Below.refl _ _).alloc (Nat.le_refl _) _).alloc (by simp) _, (Blk.new w _ _).alloc _, Blk.new1 w _ _ _⟩
  case round =>
    obtain ⟨k, hkm, rfl, hown, hbel, hPB, hQB⟩ := hrel
    have hP : Hid (IsM wr w.heap.size a) := ⟨A, n, c, hPB.out, (hr.out.below hbel.out).more hbel.out.size, hN.out⟩
    have hQ : Hid (IsM wr (w.heap.size + 1) b) := ⟨A', n', c', hQB.out, (hr'.out.below hbel.out).more hbel.out.size, hN'.out⟩
    have hsz := Lib.hid hbel.out.size
    by_cases hlt : k < m
    · obtain ⟨bk, ok, rfl, hbK⟩ := reads_head hk.out (by omega) (by decide)
      obtain ⟨x, hx, x0⟩ := us_at (hk.out.below hbel.out) hlt
      have hst := Lib.hid (btw_take (a := a) (b := b) hx)
      have j0 : (0 : Int) ≤ (k : Int) := by omega
      have j1 : (k : Int) < (m : Int) := by omega
      have hbw : bk < wr.heap.size := by have := hsz.out; omega
      have hR := Below.refl wr.heap.size wr
      have hp1 : Hid (IsM (wr.alloc (.cells #[.int .u64 x, .bool false, .int .u64 0, .bool false, .int .u64 0] 37)) w.heap.size a) := hP.out.below (hR.alloc (Nat.le_refl _) _)
      have hbx : Hid (btwC a b x = ⟨x, (look Pr.key a x).isSome, val0 (look Pr.key a x), (look Pr.key b x).isSome, val0 (look Pr.key b x)⟩) := rfl
      obtain ⟨xa, hxa⟩ : ∃ v, (look Pr.key a x).isSome = v := ⟨_, rfl⟩
      obtain ⟨va, hva⟩ : ∃ v, val0 (look Pr.key a x) = v := ⟨_, rfl⟩
      obtain ⟨xb, hxb⟩ : ∃ v, (look Pr.key b x).isSome = v := ⟨_, rfl⟩
      obtain ⟨vb, hvb⟩ : ∃ v, val0 (look Pr.key b x) = v := ⟨_, rfl⟩
      rw [hxa, hva, hxb, hvb] at hbx
      rw [hbx.out] at hst
      have hV := Lib.hid (And.intro hxa (And.intro hva (And.intro hxb hvb)))
      clear hx hbx hxa hva hxb hvb
      go_wp2_with fail
      refine (get_any a w.heap.size x _ hp1).mono ?_
      rintro e w6 h
      obtain ⟨rfl, hb⟩ := getEnd_val h
      rw [hV.out.1, hV.out.2.1]
      have hb6 : Hid (Below wr.heap.size wr w6) := (hR.alloc (Nat.le_refl _) _).trans (hb.mono (by simp))
      have hB6 : Hid (Blk w6 wr.heap.size 37 #[.int .u64 x, .bool false, .int .u64 0, .bool false, .int .u64 0]) := (Blk.new wr _ _).below hb (by simp)
      have hs6 : wr.heap.size < w6.heap.size := by have := hb.size; simp at this; omega
      have x1 := (hb6.out.cell (p := ⟨bk, ok + k, none⟩) hbw).trans x0
      have hbw6 : bk < w6.heap.size := by omega
      have C1 := hB6.out.cell 1
      have C2 := hB6.out.cell 2
      have F1 := hB6.out.frozen 1
      have F2 := hB6.out.frozen 2
      simp at C1 C2
      have hne : bk ≠ wr.heap.size := by omega
      have hb7 : Hid (Below wr.heap.size wr ((w6.setCell ⟨wr.heap.size, 2, none⟩ (.int .u64 va)).setCell ⟨wr.heap.size, 1, none⟩ (.bool xa))) := (hb6.out.setCell (Nat.le_refl _) _).setCell (Nat.le_refl _) _
      have hB7 : Hid (Blk ((w6.setCell ⟨wr.heap.size, 2, none⟩ (.int .u64 va)).setCell ⟨wr.heap.size, 1, none⟩ (.bool xa)) wr.heap.size 37 #[.int .u64 x, .bool xa, .int .u64 va, .bool false, .int .u64 0]) := (hB6.out.set_ 2 _).set_ 1 _
      have hq7 := Lib.hid (hQ.out.below hb7.out)
      clear hb h hb6 hB6 hp1
      go_wp2_with fail
      refine (get_any b (w.heap.size + 1) x _ hq7).mono ?_
      rintro e w8 h
      obtain ⟨rfl, hb⟩ := getEnd_val h
      rw [hV.out.2.2.1, hV.out.2.2.2]
      have hb8 : Hid (Below wr.heap.size wr w8) := hb7.out.trans (hb.mono (by simp; omega))
      have hB8 : Hid (Blk w8 wr.heap.size 37 #[.int .u64 x, .bool xa, .int .u64 va, .bool false, .int .u64 0]) := hB7.out.below hb (by simp; omega)
      have hs8 : wr.heap.size < w8.heap.size := by have := hb.size; simp at this; omega
      have D0 := hB8.out.cell 0
      have D1 := hB8.out.cell 1
      have D2 := hB8.out.cell 2
      have D3 := hB8.out.cell 3
      have D4 := hB8.out.cell 4
      have G3 := hB8.out.frozen 3
      have G4 := hB8.out.frozen 4
      simp at D0 D1 D2 D3 D4
      have hb9 : Hid (Below wr.heap.size wr ((w8.setCell ⟨wr.heap.size, 4, none⟩ (.int .u64 vb)).setCell ⟨wr.heap.size, 3, none⟩ (.bool xb))) := (hb8.out.setCell (Nat.le_refl _) _).setCell (Nat.le_refl _) _
      have ho9 := Lib.hid (own_below hown.out hb9.out)
      have hbel9 : Hid (Below w.heap.size w ((w8.setCell ⟨wr.heap.size, 4, none⟩ (.int .u64 vb)).setCell ⟨wr.heap.size, 3, none⟩ (.bool xb))) := hbel.out.trans (hb9.out.mono hsz.out)
      have hz9 := Lib.hid hbel9.out.size
      clear hb h hb7 hB7 hq7 C1 C2 F1 F2 x0 x1
      go_wp2_with (at_builtin; refine wpList_append_any _ rfl (.tmp 51) (.tmp 53) 27 rfl (w.heap.size + 2) 37 i0 _ 5 40 Try.underlying27 hi0 hz0 hz1 hz2 rfl (by decide) u9 k (chs (btw a b (ks.take k))) rfl (ho9.out.alloc _) (w8.heap.size + 1) (some ⟨w8.heap.size, 0, none⟩) 1 1 (chC ⟨x, xa, va, xb, vb⟩) rfl ((reads_at _ _ (chC ⟨x, xa, va, xb, vb⟩) 1 _ (by simp) rfl).more (by simp)) (chC_one _) (by unfold maxLen; omega) (by omega) (by have := hP.out.lt; have := hQ.out.lt; simp; omega) ?_; intro v1 w4 hown1 hg1 hat1)
      have hbel4 : Hid (Below w.heap.size w w4) := (hbel9.out.alloc hz9.out _).grown hg1 (by have := hz9.out; simp at this ⊢; omega) (fun q hq => by have := (ho9.out.lt q hq).1; omega)
      have hb4 : Hid (Below (w.heap.size + 2) wr w4) := ((hb9.out.mono (show w.heap.size + 2 ≤ wr.heap.size by have := hQ.out.lt; omega)).alloc (by have := hQ.out.lt; simp; omega) _).grown hg1 (by have := hQ.out.lt; simp; omega) (fun q hq => (ho9.out.lt q hq).1)
      have ho4 : Hid (w4.ownsRow (w.heap.size + 2) 37 5 v1 (k + 1) (chs (btw a b (ks.take (k + 1))))) := by
        unfold Hid
        rw [hst.out, chs_append, chs_one1]
        exact hown1
      have hP4 := Lib.hid (hPB.out.below hb4.out (by omega))
      have hQ4 := Lib.hid (hQB.out.below hb4.out (by omega))
      clear hown1 hg1 hat1
      go_wp2
      go_roundw
      case rel => exact ⟨k + 1, by omega, by go_num, ho4, hbel4, hP4, hQ4⟩
      case measure => simp [intOf]; omega
    · obtain rfl : k = m := by omega
      have ho := hown.out
      rw [List.take_of_length_le (by have := hlen.out; omega)] at ho
      have hO := Lib.hid (own_base ho (show w.heap.size ≤ w.heap.size + 2 by omega))
      obtain ⟨A', c', rfl, _⟩ := own_form ho
      clear ho
      go_wp2
      go_ret
      exact ⟨A', c', rfl, hO.out, hbel.out⟩
end Go.Proofs.Ytlaocajjenfgpaa
