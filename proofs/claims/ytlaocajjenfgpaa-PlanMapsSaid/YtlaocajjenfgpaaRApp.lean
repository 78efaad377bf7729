/- The reference's Fits and Apply, walked. -/
import Derived.Test.YtlaocajjenfgpaaRMoveW
namespace Go.Proofs.Ytlaocajjenfgpaa
open Go Go.RowKit
set_option linter.unusedVariables false

/-- One change done to the reference's map, and a list of them. -/
def stepM (m : List Pr) (c : Chg) : List Pr := if c.is = true then setP ⟨c.key, c.new⟩ m else outR c.key c.key m
def rap (l : List Chg) (ps : List Pr) : List Pr := l.foldl stepM ps
theorem step_len (m : List Pr) (c : Chg) : (stepM m c).length ≤ m.length + 1 := by
  unfold stepM
  have h1 := set_len ⟨c.key, c.new⟩ m
  have h2 := outR_le c.key c.key m
  split <;> omega
theorem rap_len : ∀ l ps, (rap l ps).length ≤ ps.length + l.length
  | [], ps => by simp [rap]
  | c :: l, ps => by
    have h1 := rap_len l (stepM ps c)
    have h2 := step_len ps c
    show (rap l (stepM ps c)).length ≤ _
    simp
    omega
theorem rap_step {l : List Chg} {ps : List Pr} {k : Nat} {c : Chg} (h : l[k]? = some c) : rap (l.take (k + 1)) ps = stepM (rap (l.take k) ps) c := by
  rw [List.take_add_one, h]
  simp [rap, List.foldl_append]
theorem step_spec {m : List Pr} (c : Chg) (h : Srt Pr.key m) : Srt Pr.key (stepM m c) ∧ ∀ k, look Pr.key (stepM m c) k = if c.key = k then (if c.is = true then some ⟨c.key, c.new⟩ else none) else look Pr.key m k := by
  unfold stepM
  by_cases hi : c.is = true
  · rw [if_pos hi]
    obtain ⟨h1, h2⟩ := set_spec ⟨c.key, c.new⟩ m h
    exact ⟨h1, fun k => by rw [h2, if_pos hi]⟩
  · rw [if_neg hi]
    refine ⟨srt_out h, fun k => ?_⟩
    rw [look_out, if_neg hi]
    by_cases hk : c.key = k
    · subst hk
      simp [inB]
    · have : inB c.key c.key k = false := by
        unfold inB
        by_cases h1 : c.key ≤ k
        · have : ¬ k ≤ c.key := by omega
          simp [this]
        · simp [h1]
      rw [this, if_neg hk]
      rfl
theorem rap_spec : ∀ l ps, Srt Chg.key l → Srt Pr.key ps → Srt Pr.key (rap l ps) ∧ ∀ k, look Pr.key (rap l ps) k = after ps l k
  | [], ps, _, h => ⟨h, fun k => by rw [after_none (look_nil k)]; rfl⟩
  | c :: l, ps, hl, h => by
    obtain ⟨g1, g2⟩ := step_spec c h
    obtain ⟨e1, e2⟩ := rap_spec l (stepM ps c) (srt_cons.1 hl).2 g1
    refine ⟨e1, fun k => ?_⟩
    show look Pr.key (rap l (stepM ps c)) k = _
    rw [e2]
    rcases hk : look Chg.key l k with _ | d
    · rw [after_none hk, g2]
      by_cases h1 : c.key = k
      · rw [if_pos h1, after_some (c := c) (by rw [look_cons, if_pos h1])]
      · rw [if_neg h1, after_none (by rw [look_cons, if_neg h1]; exact hk)]
    · have hd := (look_some hk)
      have hlt := (srt_cons.1 hl).1 d hd.1
      rw [after_some hk, after_some (c := d) (by rw [look_cons, if_neg (by omega)]; exact hk)]
/-- THE REFERENCE's APPLY IS THE PROGRAM's. -/
theorem app_rap {l : List Chg} {ps : List Pr} (hl : Plan l) (hp : Asc ps) (hf : Fits ps l) : app l ps = some (rap l ps) := by
  obtain ⟨h1, h2⟩ := rap_spec l ps (plan_iff.1 hl).2 hp
  exact app_of hl hp h1 h2 hf
theorem app_unfit {l : List Chg} {ps : List Pr} (hl : Plan l) (hp : Asc ps) (hf : ¬ Fits ps l) : app l ps = none := by
  rcases app_spec hl hp with ⟨r, _, _, _, h⟩ | ⟨h, _⟩
  · exact absurd h hf
  · exact h

/-- As far as k the changes say what is there. -/
def FitsTo (ps : List Pr) (l : List Chg) (k : Nat) : Prop := ∀ i c, i < k → l[i]? = some c → FitsAt (look Pr.key ps c.key) c
theorem fits_all {ps : List Pr} {l : List Chg} {k : Nat} (h : FitsTo ps l k) (hk : l.length ≤ k) : Fits ps l := fun c hc => by
  obtain ⟨i, hi⟩ := List.getElem?_of_mem hc
  exact h i c (by have := (List.getElem?_eq_some_iff.1 hi).1; omega) hi
theorem fits_succ {ps : List Pr} {l : List Chg} {k : Nat} {c : Chg} (h : FitsTo ps l k) (hc : l[k]? = some c) (hf : FitsAt (look Pr.key ps c.key) c) : FitsTo ps l (k + 1) := fun i d hi hd => by
  by_cases e : i = k
  · subst e
    obtain rfl := Option.some.inj (hc.symm.trans hd)
    exact hf
  · exact h i d (by omega) hd
theorem fitsAt_iff {x : Option Pr} {c : Chg} : FitsAt x c ↔ val0 x = c.old ∧ x.isSome = c.was := by
  rcases x with _ | p
  · exact ⟨fun h => ⟨h.2.symm, h.1.symm⟩, fun h => ⟨h.2.symm, h.1.symm⟩⟩
  · exact ⟨fun h => ⟨h.2.symm, h.1.symm⟩, fun h => ⟨h.2.symm, h.1.symm⟩⟩
theorem not_fits {ps : List Pr} {l : List Chg} {k : Nat} {c : Chg} (hc : l[k]? = some c) (hf : ¬ FitsAt (look Pr.key ps c.key) c) : ¬ Fits ps l := fun h => hf (h c (List.mem_of_getElem? hc))

def FitsEnd (ps : List Pr) (l : List Chg) (w : World) (e : Ending) (w' : World) : Prop :=
  (Fits ps l → e = .returned (.bool true)) ∧ (¬ Fits ps l → e = .returned (.bool false)) ∧ Below w.heap.size w w'

set_option maxRecDepth 100000 in
set_option maxHeartbeats 2000000 in
theorem fits_any (ps : List Pr) (l : List Chg) (A A' : Option Addr) (n m ca cb : Nat) (w : World) (hr : Hid (Reads w w.heap.size 2 A n (prs ps))) (hr' : Hid (Reads w w.heap.size 5 A' m (chs l))) (hn : n ≤ 100000) (hm : m ≤ 100000) (hc : n ≤ ca ∧ ca ≤ 9223372036854775807) :
    Calls Try.prog 49 #[.slice A n ca, .slice A' m cb] w (FitsEnd ps l w) := by
  have hlb := Lib.hid (chs_n hr'.out)
  have hC := Lib.hid hc
  clear hc
  have hm0 : Hid (IsM (w.alloc (.cells #[.slice A n ca] 72)) w.heap.size ps) := ⟨A, n, ca, Blk.new w _ _, (hr.out.alloc (Nat.le_refl _) _).more (by simp), by omega, hC.out⟩
  go_enter Try.func49, Try.ntmps49
  go_wp2_with fail
  go_loopw [6] (fun i wr => ∃ k : Nat, k ≤ m ∧ i = .int .i64 k ∧ Hid (FitsTo ps l k) ∧ Hid (Below w.heap.size w wr) ∧ Hid (IsM wr w.heap.size ps)) (fun i _ => m - (intOf i).toNat)
  case atStart => exact ⟨0, by omega, rfl, fun i c h => absurd h (by omega), (Below.refl _ _).alloc (Nat.le_refl _) _, hm0.out⟩
  case round =>
    clear hm0
    obtain ⟨k, hk, rfl, hF, hbel, hM⟩ := hrel
    have hsz := Lib.hid hbel.out.size
    by_cases hlt : k < m
    · obtain ⟨b, o, rfl, hbB⟩ := reads_head hr'.out (by omega) (by decide)
      obtain ⟨c, hx, c0, c1, c2, c3, c4⟩ := chs_at (hr'.out.below hbel.out) hlt
      have hX := Lib.hid hx
      obtain ⟨key, was, old, is, new⟩ := c
      dsimp only at c0 c1 c2 c3 c4
      have j0 : (0 : Int) ≤ (k : Int) := by omega
      have j1 : (k : Int) < (m : Int) := by omega
      have hbw : b < wr.heap.size := by have := hsz.out; omega
      clear hx
      go_wp2_with fail
      refine (get_any ps w.heap.size key wr hM).mono ?_
      rintro e w1 h
      obtain ⟨rfl, hb⟩ := getEnd_val h
      have hbel1 : Hid (Below w.heap.size w w1) := hbel.out.trans (hb.mono hsz.out)
      have hM1 : Hid (IsM w1 w.heap.size ps) := hM.out.below hb
      have d1 := (hb.cell (p := ⟨b, o + k * 5 + 1, none⟩) hbw).trans c1
      have d2 := (hb.cell (p := ⟨b, o + k * 5 + 2, none⟩) hbw).trans c2
      have hbw1 : b < w1.heap.size := Nat.lt_of_lt_of_le hbw hb.size
      have hi := Lib.hid (fitsAt_iff (x := look Pr.key ps key) (c := ⟨key, was, old, is, new⟩))
      obtain ⟨v, hv⟩ : ∃ v, val0 (look Pr.key ps key) = v := ⟨_, rfl⟩
      obtain ⟨u, hu⟩ : ∃ v, (look Pr.key ps key).isSome = v := ⟨_, rfl⟩
      rw [hv, hu] at hi ⊢
      clear hv hu h hb c0 c1 c2 c3 c4
      by_cases h1 : v = old
      · by_cases h2 : u = was
        · have hF2 := Lib.hid (fits_succ hF.out hX.out (hi.out.2 ⟨h1, h2⟩))
          subst h1 h2
          have e1 : (v != v) = false := by simp
          have e2 : (u != u) = false := by simp
          go_wp2_with fail
          go_roundw
          case rel => exact ⟨k + 1, by omega, by go_num, hF2, hbel1, hM1⟩
          case measure => simp [intOf]; omega
        · have hN := Lib.hid (not_fits hX.out (fun h => h2 (hi.out.1 h).2))
          subst h1
          have e1 : (v != v) = false := by simp
          rcases u with _ | _ <;> rcases was with _ | _
          · exact absurd rfl h2
          · clear h2
            go_wp2_with fail
            go_ret
            exact ⟨fun h => absurd h hN.out, fun _ => rfl, hbel1.out⟩
          · clear h2
            go_wp2_with fail
            go_ret
            exact ⟨fun h => absurd h hN.out, fun _ => rfl, hbel1.out⟩
          · exact absurd rfl h2
      · have hN := Lib.hid (not_fits hX.out (fun h => h1 (hi.out.1 h).1))
        have e1 : (v != old) = true := by simpa using h1
        clear h1
        go_wp2_with fail
        go_ret
        exact ⟨fun h => absurd h hN.out, fun _ => rfl, hbel1.out⟩
    · have hA := Lib.hid (fits_all hF.out (by have := hlb.out; omega))
      go_wp2_with fail
      go_ret
      exact ⟨fun _ => rfl, fun h => absurd hA.out h, hbel.out⟩

/-- What the reference's Apply returns. -/
def RAppEnd (ps : List Pr) (l : List Chg) (w : World) (e : Ending) (w' : World) : Prop :=
  (¬ (Asc ps ∧ Plan l) → e = .returned (.tuple #[.slice none 0 0, .int .i64 2])) ∧ (Asc ps ∧ Plan l → app l ps = none → e = .returned (.tuple #[.slice none 0 0, .int .i64 8])) ∧
  (Asc ps ∧ Plan l → ∀ r, app l ps = some r → ∃ A c, e = .returned (.tuple #[.slice A r.length c, .int .i64 0]) ∧ Reads w' w'.heap.size 2 A r.length (prs r) ∧ r.length ≤ c ∧ c ≤ 9223372036854775807) ∧ Below w.heap.size w w'

set_option maxRecDepth 100000 in
set_option maxHeartbeats 2000000 in
theorem refapply_any (ps : List Pr) (l : List Chg) (A A' : Option Addr) (n m ca cb : Nat) (w : World) (hr : Hid (Reads w w.heap.size 2 A n (prs ps))) (hr' : Hid (Reads w w.heap.size 5 A' m (chs l))) (hn : n ≤ 100000) (hm : m ≤ 100000) (hc : n ≤ ca ∧ ca ≤ 9223372036854775807) :
    Calls Try.prog 22 #[.slice A n ca, .slice A' m cb] w (RAppEnd ps l w) := by
  obtain ⟨i0, hi0, hz0, hz1, hz2⟩ := info_parts infoPair
  have hla := Lib.hid (prs_n hr.out)
  have hlb := Lib.hid (chs_n hr'.out)
  have hC := Lib.hid hc
  clear hc
  go_enter Try.func22, Try.ntmps22
  go_wp2_with fail
  refine (ascR_any ps A n ca w hr (by omega)).mono ?_
  rintro e w1 ⟨h1, h2, hb⟩
  have hb1 := Lib.hid hb
  clear hb
  by_cases hp : Asc ps
  · obtain rfl := h1 hp
    have hPa := Lib.hid hp
    clear h1 h2 hp
    go_wp2_with fail
    refine (refcheck_any l A' m cb w1 (reads_on hr' hb1.out) (by omega)).mono ?_
    rintro e w2 ⟨h1, h2, hb⟩
    have hb2 := below_on hb1 hb
    clear hb hb1
    by_cases hp : Plan l
    · obtain rfl := h1 hp
      have hPb := Lib.hid hp
      clear h1 h2 hp
      go_wp2_with fail
      refine (fits_any ps l A A' n m ca cb w2 (reads_on hr hb2.out) (reads_on hr' hb2.out) hn hm hC.out).mono ?_
      rintro e w3 ⟨h1, h2, hb⟩
      have hb3 := below_on hb2 hb
      clear hb hb2
      by_cases hf : Fits ps l
      · obtain rfl := h1 hf
        have hE := Lib.hid (app_rap hPb.out hPa.out hf)
        clear h1 h2 hf
        go_wp2_with (
          at_builtin
          refine wpList_append_any _ rfl (.tmp 20) (.tmp 21) 22 rfl w3.heap.size 47 i0 _ 2 16 Try.underlying22 hi0 hz0 hz1 hz2 rfl (by decide) (.slice (some ⟨w3.heap.size, 0, none⟩) 0 0) 0 [] rfl (own_lit w3 #[] 0 _ rfl (Nat.le_refl _) (Nat.zero_le _) rfl) w.heap.size A n ca (prs ps) rfl ((hr.out.below hb3.out).alloc hb3.out.size _) (prs_one _) (by unfold maxLen; omega) (by omega) (by simp) ?_
          intro v2 w4 hown2 hg2 hat2
          rw [Nat.zero_add, List.nil_append] at hown2
          obtain ⟨A2, c2, rfl, hc2, hc2'⟩ := own_form hown2
          unfold maxLen at hc2'
          have hb4' : Hid (Below w3.heap.size w3 w4) := ((Below.refl _ _).alloc (Nat.le_refl _) _).grown hg2 (by simp) (fun q hq => by simp [Value.ownBlock] at hq; omega)
          have hb4 : Hid (Below w.heap.size w w4) := hb3.out.trans (hb4'.out.mono hb3.out.size)
          have hs4 : w.heap.size ≤ w4.heap.size := hb4.out.size
          have hm4 : Hid (IsM (w4.alloc (.cells #[.slice A2 n c2] 72)) w4.heap.size ps) := ⟨A2, n, c2, Blk.new w4 _ _, ((Reads.of_own hown2).alloc (Nat.le_refl _) _).more (by simp), by omega, hc2, hc2'⟩
          clear hown2 hg2 hat2 hb3 hb4')
        go_loopw [7] (fun i wr => ∃ k : Nat, k ≤ m ∧ i = .int .i64 k ∧ Hid (IsM wr w4.heap.size (rap (l.take k) ps)) ∧ Hid (Below w.heap.size w wr)) (fun i _ => m - (intOf i).toNat)
        case atStart => exact ⟨0, by omega, rfl, hm4.out, hb4.out.alloc hs4 _⟩
        case round =>
          clear hm4
          obtain ⟨k, hk, rfl, hM, hbel⟩ := hrel
          have hsz := Lib.hid hbel.out.size
          have hgl := hM.out.lt
          by_cases hlt : k < m
          · obtain ⟨b, o, rfl, hbB⟩ := reads_head hr'.out (by omega) (by decide)
            obtain ⟨c, hx, c0, c1, c2, c3, c4⟩ := chs_at (hr'.out.below hbel.out) hlt
            have hst := Lib.hid (rap_step (ps := ps) hx)
            have hpl : (rap (l.take k) ps).length ≤ 900000 := by
              have h1 := rap_len (l.take k) ps
              have h2 : (l.take k).length ≤ k := List.length_take_le _ _
              have h3 := hla.out
              omega
            obtain ⟨key, was, old, is, new⟩ := c
            dsimp only at c0 c1 c2 c3 c4
            have j0 : (0 : Int) ≤ (k : Int) := by omega
            have j1 : (k : Int) < (m : Int) := by omega
            have hbw : b < wr.heap.size := by have := hsz.out; omega
            clear hx
            rcases is with _ | _
            · go_wp2_with fail
              refine (del_any _ w4.heap.size key wr hM).mono ?_
              rintro e w6 ⟨rfl, hE6⟩
              have hM6 : Hid (IsM w6 w4.heap.size (rap (l.take (k + 1)) ps)) := by unfold Hid; rw [hst.out]; exact hE6.1
              have hbel6 : Hid (Below w.heap.size w w6) := below_map hbel.out hE6.2 hsz.out hs4
              clear hE6
              go_wp2_with fail
              go_roundw
              case rel => exact ⟨k + 1, by omega, by go_num, hM6, hbel6⟩
              case measure => simp [intOf]; omega
            · have hMd : Hid (IsM wr.drew w4.heap.size (rap (l.take k) ps)) := hM.out.below (Below.refl _ _).drew
              go_wp2_with fail
              go_still_tail 11, (by kernel_rfl)
              change wpList _ _ _ _ _ wr.drew
              go_wp2_with fail
              refine (put_any _ w4.heap.size key new wr.drew hMd hpl).mono ?_
              rintro e w6 ⟨rfl, hE6⟩
              have hM6 : Hid (IsM w6 w4.heap.size (rap (l.take (k + 1)) ps)) := by unfold Hid; rw [hst.out]; exact hE6.1
              have hbel6 : Hid (Below w.heap.size w w6) := below_map hbel.out.drew hE6.2 hsz.out hs4
              clear hE6
              go_wp2_with fail
              go_roundw
              case rel => exact ⟨k + 1, by omega, by go_num, hM6, hbel6⟩
              case measure => simp [intOf]; omega
          · obtain rfl : k = m := by omega
            have htk : l.take k = l := List.take_of_length_le (by have := hlb.out; omega)
            rw [htk] at hM
            obtain ⟨Am, nm, cm, hBm, hRm, _, hcm, hcm'⟩ := hM.out
            have hBm := Lib.hid hBm
            have hRm := Lib.hid hRm
            have M0 := hBm.out.cell 0
            simp at M0
            have hnm := Lib.hid (prs_n hRm.out)
            clear htk
            go_wp2_with fail
            go_ret2
            refine ⟨fun h => absurd ⟨hPa.out, hPb.out⟩ h, fun _ h => (by rw [hE.out] at h; cases h), fun _ r hr => ?_, hbel.out⟩
            obtain rfl := Option.some.inj (hE.out.symm.trans hr)
            rw [hnm.out]
            exact ⟨Am, cm, rfl, hRm.out, hcm, hcm'⟩
      · obtain rfl := h2 hf
        have hE := Lib.hid (app_unfit hPb.out hPa.out hf)
        clear h1 h2 hf
        go_wp2_with fail
        go_ret2
        exact ⟨fun h => absurd ⟨hPa.out, hPb.out⟩ h, fun _ _ => rfl, (fun _ r h => by rw [hE.out] at h; cases h), hb3.out⟩
    · obtain rfl := h2 hp
      have hP := Lib.hid hp
      clear h1 h2 hp
      go_wp2_with fail
      go_ret2
      exact ⟨fun _ => rfl, fun h => absurd h.2 hP.out, fun h => absurd h.2 hP.out, hb2.out⟩
  · obtain rfl := h2 hp
    have hP := Lib.hid hp
    clear h1 h2 hp
    go_wp2_with fail
    go_ret2
    exact ⟨fun _ => rfl, fun h => absurd h.1 hP.out, fun h => absurd h.1 hP.out, hb1.out⟩
end Go.Proofs.Ytlaocajjenfgpaa
