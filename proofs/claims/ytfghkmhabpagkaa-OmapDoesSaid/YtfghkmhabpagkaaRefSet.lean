/- The reference's map, walked: set and cut (printed by gen_refset.py). -/
import Derived.Test.YtfghkmhabpagkaaRefMap
import Derived.Deep.RegionHeld3
namespace Go.Proofs.Ytfghkmhabpagkaa
open Go Go.RowKit
set_option linter.unusedVariables false

theorem below_but {w w' : World} (h : Below w.heap.size w w') (g : Nat) : w.grownBy w' (some g) := ⟨h.os, h.tape, h.output, h.size, fun k hk _ => h.block k hk⟩
theorem but_set (w : World) (g : Nat) (v : Value) : w.grownBy (w.setCell ⟨g, 0, none⟩ v) (some g) :=
  ⟨rfl, rfl, rfl, by simp, fun k _ hne => Below.heap_setCell w _ v k (fun e => hne (by rw [e]))⟩
/-- A map behind a turn of its one cell. -/
theorem isM_set {w w' : World} {g : Nat} {l m : List Pr} {v : Value} (hm : IsM w g l) (hb : Below w.heap.size w w') (ho : w'.ownsRow (w.heap.size + 1) 38 2 v m.length (prs m)) (hl : m.length ≤ 1000000) :
    IsM (w'.setCell ⟨g, 0, none⟩ v) g m := by
  obtain ⟨A, n, c, h1, h2, _⟩ := hm
  obtain ⟨A', c', rfl, h3, h4⟩ := own_form ho
  unfold maxLen at h4
  have hg := h1.lt
  have ho' : (w'.setCell ⟨g, 0, none⟩ (.slice A' m.length c')).ownsRow (w.heap.size + 1) 38 2 (.slice A' m.length c') m.length (prs m) := ho.kept (but_set w' g _) (.inr fun h => by have := (ho.lt g h).1; omega)
  exact ⟨A', m.length, c', (h1.below hb hg).set_ 0 _, Reads.of_own ho', hl, h3, h4⟩

/-- The rest of set: has the pair been put yet? -/
def stP (p : Pr) (d : Bool) (l : List Pr) : List Pr := if d = true then l.filter (fun x => x.key != p.key) else setP p l
section
variable {p q : Pr} {l os S : List Pr} {k : Nat}
theorem st_less (h : S = os ++ stP p false (l.drop k)) (hq : l[k]? = some q) (hk : q.key < p.key) : S = (os ++ [q]) ++ stP p false (l.drop (k + 1)) := by
  rw [h, drop_get hq]
  simp [stP, setP, hk]
theorem st_same (h : S = os ++ stP p false (l.drop k)) (hq : l[k]? = some q) (hk : q.key = p.key) : S = (os ++ [p]) ++ stP p true (l.drop (k + 1)) := by
  rw [h, drop_get hq]
  simp [stP, setP, hk]
theorem st_more (h : S = os ++ stP p false (l.drop k)) (hq : l[k]? = some q) (hk : p.key < q.key) : S = ((os ++ [p]) ++ [q]) ++ stP p true (l.drop (k + 1)) := by
  rw [h, drop_get hq]
  have h1 : ¬ q.key < p.key := by omega
  have h2 : q.key ≠ p.key := by omega
  simp [stP, setP, h1, h2]
theorem st_done (h : S = os ++ stP p true (l.drop k)) (hq : l[k]? = some q) (hk : q.key ≠ p.key) : S = (os ++ [q]) ++ stP p true (l.drop (k + 1)) := by
  rw [h, drop_get hq]
  simp [stP, hk]
theorem st_gone (h : S = os ++ stP p true (l.drop k)) (hq : l[k]? = some q) (hk : q.key = p.key) : S = os ++ stP p true (l.drop (k + 1)) := by
  rw [h, drop_get hq]
  simp [stP, hk]
theorem st_end_done (h : S = os ++ stP p true (l.drop k)) (hl : l.length ≤ k) : S = os := by
  rw [h, List.drop_of_length_le hl]
  simp [stP]
theorem st_end (h : S = os ++ stP p false (l.drop k)) (hl : l.length ≤ k) : S = os ++ [p] := by
  rw [h, List.drop_of_length_le hl]
  simp [stP, setP]
end
/-- What a method leaves that turns the map in block g into l. -/
def MapEnd (g : Nat) (l : List Pr) (w w' : World) : Prop := IsM w' g l ∧ w.grownBy w' (some g)

set_option maxRecDepth 100000 in
set_option maxHeartbeats 2000000 in
theorem set_any (l : List Pr) (g : Nat) (key val : Int) (w : World) (hm : Hid (IsM w g l)) (hll : l.length ≤ 900000) :
    Calls Try.prog 40 #[.pointer (some ⟨g, 0, none⟩), .agg #[.int .u64 key, .int .u64 val]] w fun e w' => (∃ v, e = .returned v) ∧ MapEnd g (setP ⟨key, val⟩ l) w w' := by
  obtain ⟨i0, hi0, hz0, hz1, hz2⟩ := info_parts infoPair
  obtain ⟨A, n, c, hB0, hr, hn, hc, hc'⟩ := hm.out
  have hr := Lib.hid hr
  have hlen := Lib.hid (prs_n hr.out)
  have hnl : n ≤ 900000 := by have := hlen.out; omega
  have hgw := hB0.lt
  have hB0 := Lib.hid hB0
  have hSl := Lib.hid (set_len ⟨key, val⟩ l)
  obtain ⟨S, hS0⟩ : ∃ S, setP ⟨key, val⟩ l = S := ⟨_, rfl⟩
  rw [hS0] at hSl ⊢
  have hS := Lib.hid hS0
  clear hS0
  go_enter Try.func40, Try.ntmps40
  go_wp2_with fail
  go_loopw [4, 5, 6] (fun v d i wr => ∃ (k : Nat) (os : List Pr) (dn : Bool), k ≤ n ∧ i = .int .i64 k ∧ d = .bool dn ∧ os.length ≤ k + cond dn 1 0 ∧ Hid (wr.ownsRow (w.heap.size + 1) 38 2 v os.length (prs os)) ∧ Hid (Below w.heap.size w wr) ∧ Hid (S = os ++ stP ⟨key, val⟩ dn (l.drop k)) ∧ Hid (Blk wr w.heap.size 38 #[.int .u64 key, .int .u64 val])) (fun _ _ i _ => n - (intOf i).toNat)
  case atStart => exact ⟨0, [], false, by omega, rfl, rfl, by simp, World.ownsRow_nil _ _ _ _, (Below.refl _ _).alloc (Nat.le_refl _) _, by unfold Hid; rw [← hS.out]; rfl, Blk.new w _ _⟩
  case round =>
    obtain ⟨k, os, dn, hk, rfl, rfl, hos, hown, hbel, hT, hB⟩ := hrel
    have hsz := Lib.hid hbel.out.size
    have hlo : os.length ≤ 900001 := by cases dn <;> simp at hos <;> omega
    have hgl := hB.out.lt
    have L0 := hB.out.cell 0
    have L1 := hB.out.cell 1
    simp at L0 L1
    have hbg := Lib.hid (hB0.out.below hbel.out hgw)
    have hg := hbg.out.cell 0
    have hgf := hbg.out.frozen 0
    simp at hg
    have hgr : g < wr.heap.size := by omega
    have hR := Below.refl wr.heap.size wr
    by_cases hlt : k < n
    · obtain ⟨b, o, rfl, hbB⟩ := reads_head hr.out (by omega) (by decide)
      obtain ⟨p, hx, p0, p1⟩ := prs_at (hr.out.below hbel.out) hlt
      have hX := Lib.hid hx
      obtain ⟨qk, qv⟩ := p
      dsimp only at p0 p1
      have j0 : (0 : Int) ≤ (k : Int) := by omega
      have j1 : (k : Int) < (n : Int) := by omega
      have hbw : b < wr.heap.size := by have := hsz.out; omega
      clear hx
      rcases dn with _ | _
      · have hos : os.length ≤ k := by simpa using hos
        rcases Int.lt_trichotomy qk key with hlk | hek | hgk
        · -- a smaller key
          have hT2 := Lib.hid (st_less hT.out hX.out hlk)
          have hd1 : decide (key ≤ qk) = false := by simp; omega
          have hd2 : (qk != key) = true := by simp; omega
          go_wp2_with fail
          go_quiet (fail)
          go_wp2_with fail
          go_quiet (fail)
          go_wp2_with (at_builtin; refine wpList_append_any _ rfl (.tmp 46) (.tmp 54) 22 rfl (w.heap.size + 1) 38 i0 _ 2 16 Try.underlying22 hi0 hz0 hz1 hz2 rfl (by decide) u4 os.length (prs os) rfl (own_drewN (hown.out.alloc _) _) (wr.heap.size + 1) (some ⟨wr.heap.size, 0, none⟩) 1 1 (prC ⟨qk, qv⟩) rfl (((reads_at wr _ (prC ⟨qk, qv⟩) 1 _ rfl rfl).more (by simp)).drewN _) (prC_one _) (by unfold maxLen; omega) (by omega) (by have := hsz.out; simp; omega) ?_; intro v1 w3 hown1 hg1 hat1)
          have hne : u4.ownBlock ≠ some w.heap.size := fun h => by have := (hown.out.lt _ h).1; omega
          have hbel2 : Hid (Below w.heap.size w w3) := (below_drewN (hbel.out.alloc hsz.out _) _).grown hg1 (by have := hsz.out; simp; omega) (fun q hq => by have := (hown.out.lt q hq).1; omega)
          have hown2 : Hid (w3.ownsRow (w.heap.size + 1) 38 2 v1 (os ++ [(⟨qk, qv⟩ : Pr)]).length (prs (os ++ [(⟨qk, qv⟩ : Pr)]))) := by
            unfold Hid
            rw [List.length_append]
            exact own_snocP hown1
          have hB2 : Hid (Blk w3 w.heap.size 38 #[.int .u64 key, .int .u64 val]) := ((hB.out.alloc _).drewN _).grown hg1 (fun h => hne h.symm)
          clear hown1 hg1 hat1 hne
          go_wp2
          go_roundw
          case rel => exact ⟨k + 1, _, false, by omega, by go_num, rfl, by simp; omega, hown2, hbel2, hT2, hB2⟩
          case measure => simp [intOf]; omega
        · -- the key itself
          subst hek
          have hT2 := Lib.hid (st_same hT.out hX.out rfl)
          have hd1 : decide (qk ≤ qk) = true := by simp
          have hd2 : (qk != qk) = false := by simp
          go_wp2_with fail
          go_quiet (fail)
          go_wp2_with (at_builtin; refine wpList_append_any _ rfl (.tmp 31) (.tmp 33) 22 rfl (w.heap.size + 1) 38 i0 _ 2 16 Try.underlying22 hi0 hz0 hz1 hz2 rfl (by decide) u4 os.length (prs os) rfl (own_drewN (hown.out.alloc _) _) (wr.heap.size + 1) (some ⟨wr.heap.size, 0, none⟩) 1 1 (prC ⟨qk, val⟩) rfl (((reads_at wr _ (prC ⟨qk, val⟩) 1 _ rfl rfl).more (by simp)).drewN _) (prC_one _) (by unfold maxLen; omega) (by omega) (by have := hsz.out; simp; omega) ?_; intro v1 w3 hown1 hg1 hat1)
          have hne : u4.ownBlock ≠ some w.heap.size := fun h => by have := (hown.out.lt _ h).1; omega
          have hng : u4.ownBlock ≠ some g := fun h => by have := (hown.out.lt _ h).1; omega
          have hnb : u4.ownBlock ≠ some b := fun h => by have := (hown.out.lt _ h).1; omega
          have hbel2 : Hid (Below w.heap.size w w3) := (below_drewN (hbel.out.alloc hsz.out _) _).grown hg1 (by have := hsz.out; simp; omega) (fun q hq => by have := (hown.out.lt q hq).1; omega)
          have hown2 : Hid (w3.ownsRow (w.heap.size + 1) 38 2 v1 (os ++ [(⟨qk, val⟩ : Pr)]).length (prs (os ++ [(⟨qk, val⟩ : Pr)]))) := by
            unfold Hid
            rw [List.length_append]
            exact own_snocP hown1
          have hB2 : Hid (Blk w3 w.heap.size 38 #[.int .u64 qk, .int .u64 val]) := ((hB.out.alloc _).drewN _).grown hg1 (fun h => hne h.symm)
          have hg2 := (hB0.out.below hbel2.out hgw).cell 0
          have hp2 := (hbel2.out.cell (p := ⟨b, o + k * 2, none⟩) hbB).trans ((hbel.out.cell (p := ⟨b, o + k * 2, none⟩) hbB).symm.trans p0)
          have L2 := hB2.out.cell 0
          simp at hg2 L2
          clear hown1 hg1 hat1 hne hng hnb
          go_wp2_with fail
          go_quiet (fail)
          go_wp2_with fail
          go_roundw
          case rel => exact ⟨k + 1, _, true, by omega, by go_num, rfl, by simp; omega, own_drewN hown2.out _, below_drewN hbel2.out _, hT2, hB2.out.drewN _⟩
          case measure => simp [intOf]; omega
        · -- a greater key
          have hT2 := Lib.hid (st_more hT.out hX.out hgk)
          have hd1 : decide (key ≤ qk) = true := by simp; omega
          have hd2 : (qk != key) = true := by simp; omega
          go_wp2_with fail
          go_quiet (fail)
          go_wp2_with (at_builtin; refine wpList_append_any _ rfl (.tmp 31) (.tmp 33) 22 rfl (w.heap.size + 1) 38 i0 _ 2 16 Try.underlying22 hi0 hz0 hz1 hz2 rfl (by decide) u4 os.length (prs os) rfl (own_drewN (hown.out.alloc _) _) (wr.heap.size + 1) (some ⟨wr.heap.size, 0, none⟩) 1 1 (prC ⟨key, val⟩) rfl (((reads_at wr _ (prC ⟨key, val⟩) 1 _ rfl rfl).more (by simp)).drewN _) (prC_one _) (by unfold maxLen; omega) (by omega) (by have := hsz.out; simp; omega) ?_; intro v1 w3 hown1 hg1 hat1)
          have hne : u4.ownBlock ≠ some w.heap.size := fun h => by have := (hown.out.lt _ h).1; omega
          have hbel2 : Hid (Below w.heap.size w w3) := (below_drewN (hbel.out.alloc hsz.out _) _).grown hg1 (by have := hsz.out; simp; omega) (fun q hq => by have := (hown.out.lt q hq).1; omega)
          have hown2 : Hid (w3.ownsRow (w.heap.size + 1) 38 2 v1 (os ++ [(⟨key, val⟩ : Pr)]).length (prs (os ++ [(⟨key, val⟩ : Pr)]))) := by
            unfold Hid
            rw [List.length_append]
            exact own_snocP hown1
          have hB2 : Hid (Blk w3 w.heap.size 38 #[.int .u64 key, .int .u64 val]) := ((hB.out.alloc _).drewN _).grown hg1 (fun h => hne h.symm)
          have hg2 := (hB0.out.below hbel2.out hgw).cell 0
          have hp2 := (hbel2.out.cell (p := ⟨b, o + k * 2, none⟩) hbB).trans ((hbel.out.cell (p := ⟨b, o + k * 2, none⟩) hbB).symm.trans p0)
          have hp3 := (hbel2.out.cell (p := ⟨b, o + k * 2 + 1, none⟩) hbB).trans ((hbel.out.cell (p := ⟨b, o + k * 2 + 1, none⟩) hbB).symm.trans p1)
          have L2 := hB2.out.cell 0
          have hz3 := Lib.hid hbel2.out.size
          have hlo2 : (os ++ [(⟨key, val⟩ : Pr)]).length ≤ 900002 := by simp; omega
          simp at hg2 L2
          clear hown1 hg1 hat1 hne p0 p1 hg L0 L1
          go_wp2_with fail
          go_quiet (fail)
          go_wp2_with (at_builtin; refine wpList_append_any _ rfl (.tmp 46) (.tmp 54) 22 rfl (w.heap.size + 1) 38 i0 _ 2 16 Try.underlying22 hi0 hz0 hz1 hz2 rfl (by decide) v1 (os ++ [(⟨key, val⟩ : Pr)]).length (prs (os ++ [(⟨key, val⟩ : Pr)])) rfl (own_drewN (hown2.out.alloc _) _) (w3.heap.size + 1) (some ⟨w3.heap.size, 0, none⟩) 1 1 (prC ⟨qk, qv⟩) rfl (((reads_at w3 _ (prC ⟨qk, qv⟩) 1 _ rfl rfl).more (by simp)).drewN _) (prC_one _) (by unfold maxLen; omega) (by omega) (by have := hz3.out; simp; omega) ?_; intro v2 w4 hown1 hg1 hat1)
          have hne : v1.ownBlock ≠ some w.heap.size := fun h => by have := (hown2.out.lt _ h).1; omega
          have hbel4 : Hid (Below w.heap.size w w4) := (below_drewN (hbel2.out.alloc hz3.out _) _).grown hg1 (by have := hz3.out; simp; omega) (fun q hq => by have := (hown2.out.lt q hq).1; omega)
          have hown3 : Hid (w4.ownsRow (w.heap.size + 1) 38 2 v2 ((os ++ [(⟨key, val⟩ : Pr)]) ++ [(⟨qk, qv⟩ : Pr)]).length (prs ((os ++ [(⟨key, val⟩ : Pr)]) ++ [(⟨qk, qv⟩ : Pr)]))) := by
            unfold Hid
            rw [List.length_append]
            exact own_snocP hown1
          have hB4 : Hid (Blk w4 w.heap.size 38 #[.int .u64 key, .int .u64 val]) := ((hB2.out.alloc _).drewN _).grown hg1 (fun h => hne h.symm)
          clear hown1 hg1 hat1 hne
          go_wp2
          go_roundw
          case rel => exact ⟨k + 1, _, true, by omega, by go_num, rfl, by simp; omega, hown3, hbel4, hT2, hB4⟩
          case measure => simp [intOf]; omega
      · have hos : os.length ≤ k + 1 := by simpa using hos
        by_cases hek : qk = key
        · have hT2 := Lib.hid (st_gone hT.out hX.out hek)
          subst hek
          have hd2 : (qk != qk) = false := by simp
          go_wp2_with fail
          go_quiet (fail)
          go_wp2_with fail
          go_quiet (fail)
          go_wp2_with fail
          go_roundw
          case rel => exact ⟨k + 1, os, true, by omega, by go_num, rfl, by omega, own_drewN hown.out _, below_drewN hbel.out _, hT2, hB.out.drewN _⟩
          case measure => simp [intOf]; omega
        · have hT2 := Lib.hid (st_done hT.out hX.out hek)
          have hd2 : (qk != key) = true := by simpa using hek
          clear hek
          go_wp2_with fail
          go_quiet (fail)
          go_wp2_with fail
          go_quiet (fail)
          go_wp2_with (at_builtin; refine wpList_append_any _ rfl (.tmp 46) (.tmp 54) 22 rfl (w.heap.size + 1) 38 i0 _ 2 16 Try.underlying22 hi0 hz0 hz1 hz2 rfl (by decide) u4 os.length (prs os) rfl (own_drewN (hown.out.alloc _) _) (wr.heap.size + 1) (some ⟨wr.heap.size, 0, none⟩) 1 1 (prC ⟨qk, qv⟩) rfl (((reads_at wr _ (prC ⟨qk, qv⟩) 1 _ rfl rfl).more (by simp)).drewN _) (prC_one _) (by unfold maxLen; omega) (by omega) (by have := hsz.out; simp; omega) ?_; intro v1 w3 hown1 hg1 hat1)
          have hne : u4.ownBlock ≠ some w.heap.size := fun h => by have := (hown.out.lt _ h).1; omega
          have hbel2 : Hid (Below w.heap.size w w3) := (below_drewN (hbel.out.alloc hsz.out _) _).grown hg1 (by have := hsz.out; simp; omega) (fun q hq => by have := (hown.out.lt q hq).1; omega)
          have hown2 : Hid (w3.ownsRow (w.heap.size + 1) 38 2 v1 (os ++ [(⟨qk, qv⟩ : Pr)]).length (prs (os ++ [(⟨qk, qv⟩ : Pr)]))) := by
            unfold Hid
            rw [List.length_append]
            exact own_snocP hown1
          have hB2 : Hid (Blk w3 w.heap.size 38 #[.int .u64 key, .int .u64 val]) := ((hB.out.alloc _).drewN _).grown hg1 (fun h => hne h.symm)
          clear hown1 hg1 hat1 hne
          go_wp2
          go_roundw
          case rel => exact ⟨k + 1, _, true, by omega, by go_num, rfl, by simp; omega, hown2, hbel2, hT2, hB2⟩
          case measure => simp [intOf]; omega
    · obtain rfl : k = n := by omega
      rcases dn with _ | _
      · have hE := Lib.hid (st_end hT.out (by have := hlen.out; omega))
        go_wp2_with (
          at_builtin
          refine wpList_append_any _ rfl (.tmp 58) (.tmp 60) 22 rfl (w.heap.size + 1) 38 i0 _ 2 16 Try.underlying22 hi0 hz0 hz1 hz2 rfl (by decide) u4 os.length (prs os) rfl (hown.out.alloc _) (wr.heap.size + 1) (some ⟨wr.heap.size, 0, none⟩) 1 1 (prC ⟨key, val⟩) rfl ((reads_at wr _ (prC ⟨key, val⟩) 1 _ rfl rfl).more (by simp)) (prC_one _) (by unfold maxLen; omega) (by omega) (by have := hsz.out; simp; omega) ?_
          intro v1 w3 hown1 hg1 hat1
          have hbel2 : Hid (Below w.heap.size w w3) := (hbel.out.alloc hsz.out _).grown hg1 (by have := hsz.out; simp; omega) (fun q hq => by have := (hown.out.lt q hq).1; omega)
          have hown2 : Hid (w3.ownsRow (w.heap.size + 1) 38 2 v1 S.length (prs S)) := by
            unfold Hid
            rw [hE.out, List.length_append]
            exact own_snocP hown1
          obtain ⟨A3, c3, rfl, _⟩ := own_form hown2.out
          have hbg2 := hB0.out.below hbel2.out hgw
          have hg2 := hbg2.cell 0
          have hgf2 := hbg2.frozen 0
          simp at hg2
          clear hown1 hg1 hat1)
        go_end0
        exact ⟨⟨_, rfl⟩, isM_set hm.out hbel2.out hown2.out (by have := hSl.out; omega), (below_but hbel2.out g).trans (but_set _ g _)⟩
      · have hE := Lib.hid (st_end_done hT.out (by have := hlen.out; omega))
        have hown2 : Hid (wr.ownsRow (w.heap.size + 1) 38 2 u4 S.length (prs S)) := by rw [hE.out]; exact hown
        obtain ⟨A3, c3, rfl, _⟩ := own_form hown2.out
        go_wp2_with fail
        go_end0
        exact ⟨⟨_, rfl⟩, isM_set hm.out hbel.out hown2.out (by have := hSl.out; omega), (below_but hbel.out g).trans (but_set _ g _)⟩
end Go.Proofs.Ytfghkmhabpagkaa
