/- The reference's set and New once more: where the row lies (printed by gen_setlo.py out of plan's XRefSet). -/
import Derived.Test.YtfghkmhabpagkaaRNew
namespace Go.Proofs.Ytfghkmhabpagkaa
open Go Go.RowKit
set_option linter.unusedVariables false

/-- The row of the reference's map lies at or beyond B. -/
def LoR (w : World) (g B : Nat) : Prop := ∀ A n c, Blk w g 85 #[.slice A n c] → ∀ ad, A = some ad → 0 < n → B ≤ ad.block
theorem blk_same {w : World} {g : Nat} {T T' : TypeId} {cs ds : Array Value} (h : Blk w g T cs) (h' : Blk w g T' ds) : cs = ds := by
  unfold Blk at h h'
  rw [h] at h'
  have := Option.some.inj h'
  injection this
theorem lo_set {w w' : World} {g : Nat} {l m : List Pr} {v : Value} (hm : IsM w g l) (hb : Below w.heap.size w w') (ho : w'.ownsRow (w.heap.size + 1) 38 2 v m.length (prs m)) :
    LoR (w'.setCell ⟨g, 0, none⟩ v) g (w.heap.size + 1) := by
  obtain ⟨A, n, c, h1, _⟩ := hm
  have hB := (h1.below hb h1.lt).set_ 0 v
  intro A' n' c' hB' ad e hn
  have hv := blk_same hB hB'
  have hv2 : v = .slice A' n' c' := by
    have h2 := congrArg (fun a : Array Value => a[0]?) hv
    simpa using h2
  subst hv2
  rcases ho.2 with ⟨e1, _⟩ | ⟨q, cap, cur, e1, hq, _⟩
  · injection e1 with e2 e3
    omega
  · injection e1 with e2
    rw [e] at e2
    rw [Option.some.inj e2]
    exact hq
set_option maxRecDepth 100000 in
set_option maxHeartbeats 2000000 in
theorem set_lo (l : List Pr) (g : Nat) (key val : Int) (w : World) (hm : Hid (IsM w g l)) (hll : l.length ≤ 900000) :
    Calls Try.prog 40 #[.pointer (some ⟨g, 0, none⟩), .agg #[.int .u64 key, .int .u64 val]] w fun e w' => (∃ v, e = .returned v) ∧ MapEnd g (setP ⟨key, val⟩ l) w w' ∧ LoR w' g (w.heap.size + 1) := by
  obtain ⟨i0, hi0, hz0, hz1, hz2⟩ := info_parts infoPair
  obtain ⟨A, n, c, hB0, hr, hn, hc, hc'⟩ := hm.out
  have hr := Lib.hid hr
  have hlen := Lib.hid (prs_n hr.out)
  have hnl : n ≤ 900000 := by have := hlen.out; omega
  have hgw := hB0.lt
  have hB0 := Lib.hid hB0
  have hSl := Lib.hid (set_len ⟨key, val⟩ l)
  obtain ⟨S, hS0⟩ : ∃ S, setP ⟨key, val⟩ l = S := ⟨_, rfl⟩
  rw [hS0] at hSl ⊢
  have hS := Lib.hid hS0
  clear hS0
  go_enter Try.func40, Try.ntmps40
  go_wp2_with fail
  go_loopw [4, 5, 6] (fun v d i wr => ∃ (k : Nat) (os : List Pr) (dn : Bool), k ≤ n ∧ i = .int .i64 k ∧ d = .bool dn ∧ os.length ≤ k + cond dn 1 0 ∧ Hid (wr.ownsRow (w.heap.size + 1) 38 2 v os.length (prs os)) ∧ Hid (Below w.heap.size w wr) ∧ Hid (S = os ++ stP ⟨key, val⟩ dn (l.drop k)) ∧ Hid (Blk wr w.heap.size 38 #[.int .u64 key, .int .u64 val])) (fun _ _ i _ => n - (intOf i).toNat)
  case atStart => exact ⟨0, [], false, by omega, rfl, rfl, by simp, World.ownsRow_nil _ _ _ _, (Below.refl _ _).alloc (Nat.le_refl _) _, by unfold Hid; rw [← hS.out]; rfl, Blk.new w _ _⟩
  case round =>
    obtain ⟨k, os, dn, hk, rfl, rfl, hos, hown, hbel, hT, hB⟩ := hrel
    have hsz := Lib.hid hbel.out.size
    have hlo : os.length ≤ 900001 := by cases dn <;> simp at hos <;> omega
    have hgl := hB.out.lt
    have L0 := hB.out.cell 0
    have L1 := hB.out.cell 1
    simp at L0 L1
    have hbg := Lib.hid (hB0.out.below hbel.out hgw)
    have hg := hbg.out.cell 0
    have hgf := hbg.out.frozen 0
    simp at hg
    have hgr : g < wr.heap.size := by omega
    have hR := Below.refl wr.heap.size wr
    by_cases hlt : k < n
    · obtain ⟨b, o, rfl, hbB⟩ := reads_head hr.out (by omega) (by decide)
      obtain ⟨p, hx, p0, p1⟩ := prs_at (hr.out.below hbel.out) hlt
      have hX := Lib.hid hx
      obtain ⟨qk, qv⟩ := p
      dsimp only at p0 p1
      have j0 : (0 : Int) ≤ (k : Int) := by omega
      have j1 : (k : Int) < (n : Int) := by omega
      have hbw : b < wr.heap.size := by have := hsz.out; omega
      clear hx
      rcases dn with _ | _
      · have hos : os.length ≤ k := by simpa using hos
        rcases Int.lt_trichotomy qk key with hlk | hek | hgk
        · -- a smaller key
          have hT2 := Lib.hid (st_less hT.out hX.out hlk)
          have hd1 : decide (key ≤ qk) = false := by simp; omega
          have hd2 : (qk != key) = true := by simp; omega
          go_wp2_with fail
          go_quiet (fail)
          go_wp2_with fail
          go_quiet (fail)
          go_wp2_with (at_builtin; refine wpList_append_any _ rfl (.tmp 46) (.tmp 54) 22 rfl (w.heap.size + 1) 38 i0 _ 2 16 Try.underlying22 hi0 hz0 hz1 hz2 rfl (by decide) u4 os.length (prs os) rfl (own_drewN (hown.out.alloc _) _) (wr.heap.size + 1) (some ⟨wr.heap.size, 0, none⟩) 1 1 (prC ⟨qk, qv⟩) rfl (((reads_at wr _ (prC ⟨qk, qv⟩) 1 _ rfl rfl).more (by simp)).drewN _) (prC_one _) (by unfold maxLen; omega) (by omega) (by have := hsz.out; simp; omega) ?_; intro v1 w3 hown1 hg1 hat1)
          have hne : u4.ownBlock ≠ some w.heap.size := fun h => by have := (hown.out.lt _ h).1; omega
          have hbel2 : Hid (Below w.heap.size w w3) := (below_drewN (hbel.out.alloc hsz.out _) _).grown hg1 (by have := hsz.out; simp; omega) (fun q hq => by have := (hown.out.lt q hq).1; omega)
          have hown2 : Hid (w3.ownsRow (w.heap.size + 1) 38 2 v1 (os ++ [(⟨qk, qv⟩ : Pr)]).length (prs (os ++ [(⟨qk, qv⟩ : Pr)]))) := by
            unfold Hid
            rw [List.length_append]
            exact own_snocP hown1
          have hB2 : Hid (Blk w3 w.heap.size 38 #[.int .u64 key, .int .u64 val]) := ((hB.out.alloc _).drewN _).grown hg1 (fun h => hne h.symm)
          clear hown1 hg1 hat1 hne
          go_wp2
          go_roundw
          case rel => exact ⟨k + 1, _, false, by omega, by go_num, rfl, by simp; omega, hown2, hbel2, hT2, hB2⟩
          case measure => simp [intOf]; omega
        · -- the key itself
          subst hek
          have hT2 := Lib.hid (st_same hT.out hX.out rfl)
          have hd1 : decide (qk ≤ qk) = true := by simp
          have hd2 : (qk != qk) = false := by simp
          go_wp2_with fail
          go_quiet (fail)
          go_wp2_with (at_builtin; refine wpList_append_any _ rfl (.tmp 31) (.tmp 33) 22 rfl (w.heap.size + 1) 38 i0 _ 2 16 Try.underlying22 hi0 hz0 hz1 hz2 rfl (by decide) u4 os.length (prs os) rfl (own_drewN (hown.out.alloc _) _) (wr.heap.size + 1) (some ⟨wr.heap.size, 0, none⟩) 1 1 (prC ⟨qk, val⟩) rfl (((reads_at wr _ (prC ⟨qk, val⟩) 1 _ rfl rfl).more (by simp)).drewN _) (prC_one _) (by unfold maxLen; omega) (by omega) (by have := hsz.out; simp; omega) ?_; intro v1 w3 hown1 hg1 hat1)
          have hne : u4.ownBlock ≠ some w.heap.size := fun h => by have := (hown.out.lt _ h).1; omega
          have hng : u4.ownBlock ≠ some g := fun h => by have := (hown.out.lt _ h).1; omega
          have hnb : u4.ownBlock ≠ some b := fun h => by have := (hown.out.lt _ h).1; omega
          have hbel2 : Hid (Below w.heap.size w w3) := (below_drewN (hbel.out.alloc hsz.out _) _).grown hg1 (by have := hsz.out; simp; omega) (fun q hq => by have := (hown.out.lt q hq).1; omega)
          have hown2 : Hid (w3.ownsRow (w.heap.size + 1) 38 2 v1 (os ++ [(⟨qk, val⟩ : Pr)]).length (prs (os ++ [(⟨qk, val⟩ : Pr)]))) := by
            unfold Hid
            rw [List.length_append]
            exact own_snocP hown1
          have hB2 : Hid (Blk w3 w.heap.size 38 #[.int .u64 qk, .int .u64 val]) := ((hB.out.alloc _).drewN _).grown hg1 (fun h => hne h.symm)
          have hg2 := (hB0.out.below hbel2.out hgw).cell 0
          have hp2 := (hbel2.out.cell (p := ⟨b, o + k * 2, none⟩) hbB).trans ((hbel.out.cell (p := ⟨b, o + k * 2, none⟩) hbB).symm.trans p0)
          have L2 := hB2.out.cell 0
          simp at hg2 L2
          clear hown1 hg1 hat1 hne hng hnb
          go_wp2_with fail
          go_quiet (fail)
          go_wp2_with fail
          go_roundw
          case rel => exact ⟨k + 1, _, true, by omega, by go_num, rfl, by simp; omega, own_drewN hown2.out _, below_drewN hbel2.out _, hT2, hB2.out.drewN _⟩
          case measure => simp [intOf]; omega
        · -- a greater key
          have hT2 := Lib.hid (st_more hT.out hX.out hgk)
          have hd1 : decide (key ≤ qk) = true := by simp; omega
          have hd2 : (qk != key) = true := by simp; omega
          go_wp2_with fail
          go_quiet (fail)
          go_wp2_with (at_builtin; refine wpList_append_any _ rfl (.tmp 31) (.tmp 33) 22 rfl (w.heap.size + 1) 38 i0 _ 2 16 Try.underlying22 hi0 hz0 hz1 hz2 rfl (by decide) u4 os.length (prs os) rfl (own_drewN (hown.out.alloc _) _) (wr.heap.size + 1) (some ⟨wr.heap.size, 0, none⟩) 1 1 (prC ⟨key, val⟩) rfl (((reads_at wr _ (prC ⟨key, val⟩) 1 _ rfl rfl).more (by simp)).drewN _) (prC_one _) (by unfold maxLen; omega) (by omega) (by have := hsz.out; simp; omega) ?_; intro v1 w3 hown1 hg1 hat1)
          have hne : u4.ownBlock ≠ some w.heap.size := fun h => by have := (hown.out.lt _ h).1; omega
          have hbel2 : Hid (Below w.heap.size w w3) := (below_drewN (hbel.out.alloc hsz.out _) _).grown hg1 (by have := hsz.out; simp; omega) (fun q hq => by have := (hown.out.lt q hq).1; omega)
          have hown2 : Hid (w3.ownsRow (w.heap.size + 1) 38 2 v1 (os ++ [(⟨key, val⟩ : Pr)]).length (prs (os ++ [(⟨key, val⟩ : Pr)]))) := by
            unfold Hid
            rw [List.length_append]
            exact own_snocP hown1
          have hB2 : Hid (Blk w3 w.heap.size 38 #[.int .u64 key, .int .u64 val]) := ((hB.out.alloc _).drewN _).grown hg1 (fun h => hne h.symm)
          have hg2 := (hB0.out.below hbel2.out hgw).cell 0
          have hp2 := (hbel2.out.cell (p := ⟨b, o + k * 2, none⟩) hbB).trans ((hbel.out.cell (p := ⟨b, o + k * 2, none⟩) hbB).symm.trans p0)
          have hp3 := (hbel2.out.cell (p := ⟨b, o + k * 2 + 1, none⟩) hbB).trans ((hbel.out.cell (p := ⟨b, o + k * 2 + 1, none⟩) hbB).symm.trans p1)
          have L2 := hB2.out.cell 0
          have hz3 := Lib.hid hbel2.out.size
          have hlo2 : (os ++ [(⟨key, val⟩ : Pr)]).length ≤ 900002 := by simp; omega
          simp at hg2 L2
          clear hown1 hg1 hat1 hne p0 p1 hg L0 L1
          go_wp2_with fail
          go_quiet (fail)
          go_wp2_with (at_builtin; refine wpList_append_any _ rfl (.tmp 46) (.tmp 54) 22 rfl (w.heap.size + 1) 38 i0 _ 2 16 Try.underlying22 hi0 hz0 hz1 hz2 rfl (by decide) v1 (os ++ [(⟨key, val⟩ : Pr)]).length (prs (os ++ [(⟨key, val⟩ : Pr)])) rfl (own_drewN (hown2.out.alloc _) _) (w3.heap.size + 1) (some ⟨w3.heap.size, 0, none⟩) 1 1 (prC ⟨qk, qv⟩) rfl (((reads_at w3 _ (prC ⟨qk, qv⟩) 1 _ rfl rfl).more (by simp)).drewN _) (prC_one _) (by unfold maxLen; omega) (by omega) (by have := hz3.out; simp; omega) ?_; intro v2 w4 hown1 hg1 hat1)
          have hne : v1.ownBlock ≠ some w.heap.size := fun h => by have := (hown2.out.lt _ h).1; omega
          have hbel4 : Hid (Below w.heap.size w w4) := (below_drewN (hbel2.out.alloc hz3.out _) _).grown hg1 (by have := hz3.out; simp; omega) (fun q hq => by have := (hown2.out.lt q hq).1; omega)
          have hown3 : Hid (w4.ownsRow (w.heap.size + 1) 38 2 v2 ((os ++ [(⟨key, val⟩ : Pr)]) ++ [(⟨qk, qv⟩ : Pr)]).length (prs ((os ++ [(⟨key, val⟩ : Pr)]) ++ [(⟨qk, qv⟩ : Pr)]))) := by
            unfold Hid
            rw [List.length_append]
            exact own_snocP hown1
          have hB4 : Hid (Blk w4 w.heap.size 38 #[.int .u64 key, .int .u64 val]) := ((hB2.out.alloc _).drewN _).grown hg1 (fun h => hne h.symm)
          clear hown1 hg1 hat1 hne
          go_wp2
          go_roundw
          case rel => exact ⟨k + 1, _, true, by omega, by go_num, rfl, by simp; omega, hown3, hbel4, hT2, hB4⟩
          case measure => simp [intOf]; omega
      · have hos : os.length ≤ k + 1 := by simpa using hos
        by_cases hek : qk = key
        · have hT2 := Lib.hid (st_gone hT.out hX.out hek)
          subst hek
          have hd2 : (qk != qk) = false := by simp
          go_wp2_with fail
          go_quiet (fail)
          go_wp2_with fail
          go_quiet (fail)
          go_wp2_with fail
          go_roundw
          case rel => exact ⟨k + 1, os, true, by omega, by go_num, rfl, by omega, own_drewN hown.out _, below_drewN hbel.out _, hT2, hB.out.drewN _⟩
          case measure => simp [intOf]; omega
        · have hT2 := Lib.hid (st_done hT.out hX.out hek)
          have hd2 : (qk != key) = true := by simpa using hek
          clear hek
          go_wp2_with fail
          go_quiet (fail)
          go_wp2_with fail
          go_quiet (fail)
          go_wp2_with (at_builtin; refine wpList_append_any _ rfl (.tmp 46) (.tmp 54) 22 rfl (w.heap.size + 1) 38 i0 _ 2 16 Try.underlying22 hi0 hz0 hz1 hz2 rfl (by decide) u4 os.length (prs os) rfl (own_drewN (hown.out.alloc _) _) (wr.heap.size + 1) (some ⟨wr.heap.size, 0, none⟩) 1 1 (prC ⟨qk, qv⟩) rfl (((reads_at wr _ (prC ⟨qk, qv⟩) 1 _ rfl rfl).more (by simp)).drewN _) (prC_one _) (by unfold maxLen; omega) (by omega) (by have := hsz.out; simp; omega) ?_; intro v1 w3 hown1 hg1 hat1)
          have hne : u4.ownBlock ≠ some w.heap.size := fun h => by have := (hown.out.lt _ h).1; omega
          have hbel2 : Hid (Below w.heap.size w w3) := (below_drewN (hbel.out.alloc hsz.out _) _).grown hg1 (by have := hsz.out; simp; omega) (fun q hq => by have := (hown.out.lt q hq).1; omega)
          have hown2 : Hid (w3.ownsRow (w.heap.size + 1) 38 2 v1 (os ++ [(⟨qk, qv⟩ : Pr)]).length (prs (os ++ [(⟨qk, qv⟩ : Pr)]))) := by
            unfold Hid
            rw [List.length_append]
            exact own_snocP hown1
          have hB2 : Hid (Blk w3 w.heap.size 38 #[.int .u64 key, .int .u64 val]) := ((hB.out.alloc _).drewN _).grown hg1 (fun h => hne h.symm)
          clear hown1 hg1 hat1 hne
          go_wp2
          go_roundw
          case rel => exact ⟨k + 1, _, true, by omega, by go_num, rfl, by simp; omega, hown2, hbel2, hT2, hB2⟩
          case measure => simp [intOf]; omega
    · obtain rfl : k = n := by omega
      rcases dn with _ | _
      · have hE := Lib.hid (st_end hT.out (by have := hlen.out; omega))
        go_wp2_with (
          at_builtin
          refine wpList_append_any _ rfl (.tmp 58) (.tmp 60) 22 rfl (w.heap.size + 1) 38 i0 _ 2 16 Try.underlying22 hi0 hz0 hz1 hz2 rfl (by decide) u4 os.length (prs os) rfl (hown.out.alloc _) (wr.heap.size + 1) (some ⟨wr.heap.size, 0, none⟩) 1 1 (prC ⟨key, val⟩) rfl ((reads_at wr _ (prC ⟨key, val⟩) 1 _ rfl rfl).more (by simp)) (prC_one _) (by unfold maxLen; omega) (by omega) (by have := hsz.out; simp; omega) ?_
          intro v1 w3 hown1 hg1 hat1
          have hbel2 : Hid (Below w.heap.size w w3) := (hbel.out.alloc hsz.out _).grown hg1 (by have := hsz.out; simp; omega) (fun q hq => by have := (hown.out.lt q hq).1; omega)
          have hown2 : Hid (w3.ownsRow (w.heap.size + 1) 38 2 v1 S.length (prs S)) := by
            unfold Hid
            rw [hE.out, List.length_append]
            exact own_snocP hown1
          obtain ⟨A3, c3, rfl, _⟩ := own_form hown2.out
          have hbg2 := hB0.out.below hbel2.out hgw
          have hg2 := hbg2.cell 0
          have hgf2 := hbg2.frozen 0
          simp at hg2
          clear hown1 hg1 hat1)
        go_end0
        exact ⟨⟨_, rfl⟩, ⟨isM_set hm.out hbel2.out hown2.out (by have := hSl.out; omega), (below_but hbel2.out g).trans (but_set _ g _)⟩, lo_set hm.out hbel2.out hown2.out⟩
      · have hE := Lib.hid (st_end_done hT.out (by have := hlen.out; omega))
        have hown2 : Hid (wr.ownsRow (w.heap.size + 1) 38 2 u4 S.length (prs S)) := by rw [hE.out]; exact hown
        obtain ⟨A3, c3, rfl, _⟩ := own_form hown2.out
        go_wp2_with fail
        go_end0
        exact ⟨⟨_, rfl⟩, ⟨isM_set hm.out hbel.out hown2.out (by have := hSl.out; omega), (below_but hbel.out g).trans (but_set _ g _)⟩, lo_set hm.out hbel.out hown2.out⟩
def RNewLo (l : List Pr) (w : World) (e : Ending) (w' : World) : Prop :=
  Below w.heap.size w w' ∧ ((NoDup l l.length ∧ ∃ g, e = .returned (.tuple #[.pointer (some ⟨g, 0, none⟩), .int .i64 0]) ∧ w.heap.size ≤ g ∧ IsM w' g (puts [] l) ∧ LoR w' g w.heap.size) ∨
    (¬ NoDup l l.length ∧ e = .returned (.tuple #[.pointer none, .int .i64 9])))
set_option maxRecDepth 100000 in
set_option maxHeartbeats 4000000 in
theorem rnew_lo (l : List Pr) (A : Option Addr) (n c : Nat) (w : World) (hr : Hid (Reads w w.heap.size 2 A n (prs l))) (hn : n ≤ 400000) :
    Calls Try.prog 21 #[.slice A n c] w (RNewLo l w) := by
  have hll := Lib.hid (prs_n hr.out)
  have hb0 : Hid (Below w.heap.size w (w.alloc (.cells #[.slice none 0 0] 85))) := (Below.refl _ _).alloc (Nat.le_refl _) _
  have hM0 : Hid (IsM (w.alloc (.cells #[.slice none 0 0] 85)) w.heap.size []) := ⟨none, 0, 0, Blk.new _ _ _, reads_zero none, by omega, by omega, by omega⟩
  have hL0 : Hid (LoR (w.alloc (.cells #[.slice none 0 0] 85)) w.heap.size w.heap.size) := fun A' n' c' hB ad e hn => by
    have h1 := blk_same (Blk.new w 85 #[.slice none 0 0]) hB
    have h2 := congrArg (fun a : Array Value => a[0]?) h1
    simp at h2
    omega
  unfold RNewLo
  go_enter Try.func21, Try.ntmps21
  go_wp2_with fail
  go_loopg [5] n (fun g i wr => ∃ k : Nat, k + g = n ∧ i = .int .i64 k ∧ Hid (IsM wr w.heap.size (puts [] (l.take k))) ∧ Hid (Below w.heap.size w wr) ∧ Hid (NoDup l k) ∧ Hid (LoR wr w.heap.size w.heap.size))
  case atStart => exact ⟨0, by omega, rfl, hM0.out, hb0.out, (fun j p _ h => absurd h (by omega)), hL0.out⟩
  case round =>
    clear hM0 hb0 hL0
    obtain ⟨k, hk, rfl, hM, hbel, hnd, hlo⟩ := hrel
    cases gk with
    | zero =>
      obtain rfl : n = k := by omega
      have hM2 : Hid (IsM wr w.heap.size (puts [] l)) := by
        have h1 := hM.out
        rw [List.take_of_length_le (by rw [hll.out]; exact Nat.le_refl _)] at h1
        exact h1
      clear hM
      go_wp2_with fail
      go_ret2
      exact ⟨hbel.out, .inl ⟨by rw [hll.out]; exact hnd.out, w.heap.size, rfl, Nat.le_refl _, hM2.out, hlo.out⟩⟩
    | succ g =>
      have hsz := Lib.hid hbel.out.size
      obtain ⟨b, o, rfl, hbB⟩ := reads_head hr.out (by omega) (by decide)
      obtain ⟨p, hx, c0, c1⟩ := prs_at (hr.out.below hbel.out) (show k < n by omega)
      have hst := puts_step' (base := []) hx
      have hxh := Lib.hid hx
      obtain ⟨pk, pv⟩ := p
      dsimp only at c0 c1
      have i0 : (0 : Int) ≤ (k : Int) := by omega
      have i1 : (k : Int) < (n : Int) := by omega
      have hpl : (puts [] (l.take k)).length ≤ 800000 := by
        have h1 := puts_len (l.take k) []
        have h2 : (l.take k).length ≤ k := List.length_take_le _ _
        simp at h1
        omega
      have hplace := place_any (puts [] (l.take k)) w.heap.size pk wr hM
      have hsth := Lib.hid hst
      clear hst hx
      cases hlk : look Pr.key (puts [] (l.take k)) pk with
      | none =>
        have hnd2 := Lib.hid (hnd.out.step hxh.out hlk)
        rw [place_none hlk] at hplace
        clear hlk
        go_wp2_with fail
        refine hplace.mono ?_
        rintro e w2 ⟨rfl, rfl⟩
        clear hplace
        go_wp2_with fail
        refine (set_lo (puts [] (l.take k)) w.heap.size pk pv wr hM (by omega)).mono ?_
        rintro e w3 ⟨⟨x, rfl⟩, hE, hLo⟩
        have hlo3 : Hid (LoR w3 w.heap.size w.heap.size) := fun A' n' c' hB ad e hn => Nat.le_trans hsz.out (Nat.le_trans (Nat.le_succ _) (hLo A' n' c' hB ad e hn))
        have hM3 : Hid (IsM w3 w.heap.size (puts [] (l.take (k + 1)))) := by unfold Hid; rw [hsth.out]; exact hE.1
        have hb3 : Hid (Below w.heap.size w w3) := below_map hbel.out hE.2 hsz.out (Nat.le_refl _)
        clear hE hLo hlo hM hbel hnd c0 c1
        go_wp2_with fail
        go_roundg g
        case measure => omega
        case rel => exact ⟨k + 1, by omega, by go_num, hM3, hb3, hnd2, hlo3⟩
      | some q =>
        obtain ⟨i, hi, _⟩ := place_some hlk
        rw [hi] at hplace
        have hno : Hid (¬ NoDup l l.length) := fun h => by
          have h1 := h k _ hxh.out (by rw [hll.out]; omega)
          rw [hlk] at h1
          cases h1
        have hi0 : (0 : Int) ≤ (i : Int) := by omega
        clear hlk hi hM hnd
        go_wp2_with fail
        refine hplace.mono ?_
        rintro e w2 ⟨rfl, rfl⟩
        clear hplace
        go_wp2_with fail
        go_ret2
        exact ⟨hbel.out, .inr ⟨hno.out, rfl⟩⟩
end Go.Proofs.Ytfghkmhabpagkaa
