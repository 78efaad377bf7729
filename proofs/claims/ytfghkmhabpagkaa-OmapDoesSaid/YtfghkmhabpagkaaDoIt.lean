/- Both maps beside each other; the laws' function do, walked (printed by gen_do.py). -/
import Derived.Test.YtfghkmhabpagkaaRMethLo
import Derived.Test.YtfghkmhabpagkaaNil2
import Derived.Test.YtfghkmhabpagkaaLawKeep
namespace Go.Proofs.Ytfghkmhabpagkaa
open Go Go.RowKit
set_option linter.unusedVariables false

theorem valO_eq (o : Option Pr) : val0 o = valO o := by cases o <;> rfl
/-- The reference's map beside the program's map g, v. -/
def RAt (w : World) (g : Nat) (v : Value) (g' : Nat) (S : List Pr) : Prop :=
  ∃ A n c, Blk w g' 85 #[.slice A n c] ∧ Kp w g v 2 A n (prs S) ∧ n ≤ 1000000 ∧ n ≤ c ∧ c ≤ 9223372036854775807
theorem RAt.is {w : World} {g g' : Nat} {v : Value} {S : List Pr} (h : RAt w g v g' S) : IsM w g' S := by
  obtain ⟨A, n, c, h1, h2, h3⟩ := h
  exact ⟨A, n, c, h1, h2.1, h3⟩
structure DSt (W w : World) (g : Nat) (v : Value) (l : List Pr) (g' : Nat) (S : List Pr) : Prop where
  m : MapAt W w g v l
  r : RAt w g v g' S
  lo : W.heap.size ≤ g'
  aw : Aside w g v g'
theorem DSt.prog {W w w' : World} {g g' : Nat} {v v' : Value} {l m S : List Pr} (h : DSt W w g v l g' S) (hm : MapAt W w' g v' m) (hs : Stays w w' g v v') : DSt W w' g v' m g' S := by
  obtain ⟨A, n, c, h1, h2, h3⟩ := h.r
  exact ⟨hm, ⟨A, n, c, (blk_stays (Lib.hid h1) (Lib.hid h.aw) hs).out, (kp_on (Lib.hid h2) hs).out, h3⟩, h.lo, h.aw.on hs⟩
theorem DSt.below {W w w' : World} {g g' : Nat} {v : Value} {l S : List Pr} (h : DSt W w g v l g' S) (hb : Below w.heap.size w w') : DSt W w' g v l g' S := h.prog (h.m.below hb) (Stays.of_below hb)
theorem dst_on {W w w' : World} {g g' : Nat} {v : Value} {l S : List Pr} (h : Hid (DSt W w g v l g' S)) (hb : Below w.heap.size w w') : Hid (DSt W w' g v l g' S) := h.out.below hb
theorem DSt.ref {W w w' : World} {g g' : Nat} {v : Value} {l S m : List Pr} (h : DSt W w g v l g' S) (hr : ROut g' S m w w') : DSt W w' g v l g' m := by
  rcases hr with ⟨rfl, hb⟩ | ⟨⟨hI, hG⟩, hLo⟩
  · exact h.below hb
  · have hbut : But w w' g' (.slice none 0 0) := ⟨hG.os, hG.tape, hG.output, hG.size, fun k hk hne _ => hG.block k hk (fun e => hne (Option.some.inj e))⟩
    have hsz := hG.size
    refine ⟨⟨h.m.o.other hbut (Ne.symm h.aw.2.1) (by simp [Value.ownBlock]) (fun q hq => ⟨fun e => h.aw.2.2 (by rw [← e]; exact hq), by simp [Value.ownBlock]⟩), below_map h.m.bel hG h.m.bel.size h.lo⟩, ?_, h.lo, ⟨Nat.lt_of_lt_of_le h.aw.1 hsz, h.aw.2⟩⟩
    obtain ⟨A, n, c, hB, hr, h3⟩ := hI
    refine ⟨A, n, c, hB, ⟨hr, fun ad e hn => ?_⟩, h3⟩
    obtain ⟨ad', e', hb', _⟩ := hr.2 hn
    rw [e] at e'
    obtain rfl := Option.some.inj e'
    have h4 := hLo A n c hB ad e hn
    have h5 := h.m.o.blk.lt
    refine ⟨hb', by omega, fun e5 => ?_⟩
    have := (h.m.o.own.lt _ e5).2
    omega
def WfP (S : List Pr) : Prop := ∀ p ∈ S, (Lit.int .u64 p.key).wf = true ∧ (Lit.int .u64 p.val).wf = true
theorem WfP.key {S : List Pr} (h : WfP S) : ∀ p ∈ S, (Lit.int .u64 p.key).wf = true := fun p hp => (h p hp).1
theorem WfP.set {S : List Pr} {k x : Int} (h : WfP S) (wk : (Lit.int .u64 k).wf = true) (wx : (Lit.int .u64 x).wf = true) : WfP (setP ⟨k, x⟩ S) := fun p hp => by
  rcases mem_setP hp with rfl | hp
  · exact ⟨wk, wx⟩
  · exact h p hp
theorem WfP.out {S : List Pr} {lo hi : Int} (h : WfP S) : WfP (outR lo hi S) := fun p hp => h p (List.mem_filter.1 hp).1
theorem WfP.pif {S : List Pr} {k x : Int} (h : WfP S) (wk : (Lit.int .u64 k).wf = true) (wx : (Lit.int .u64 x).wf = true) : WfP (pifL S k x) := by
  unfold pifL
  split
  · exact h
  · exact h.set wk wx
theorem WfP.cas {S : List Pr} {k x : Int} {c : Bool} (h : WfP S) (wk : (Lit.int .u64 k).wf = true) (wx : (Lit.int .u64 x).wf = true) : WfP (if c = true then setP ⟨k, x⟩ S else S) := by
  split
  · exact h.set wk wx
  · exact h
theorem WfP.moved {S : List Pr} {lo hi by_ : Int} (h : WfP S) (wl : (Lit.int .u64 lo).wf = true) (wb : (Lit.int .u64 by_).wf = true) (h2 : hi + by_ ≤ 18446744073709551615) : WfP (moved lo hi by_ S) := fun p hp => by
  refine ⟨moved_wf h.key (bounds_u64 wl).1 (bounds_u64 wb).1 h2 p hp, ?_⟩
  rcases mem_puts _ hp with hp | hp
  · obtain ⟨q, hq, rfl⟩ := List.mem_map.1 hp
    exact (h q (inR_mem hq).1).2
  · exact (h p (List.mem_filter.1 hp).1).2
theorem rem9 (d : Int) : d % 9 = 0 ∨ d % 9 = 1 ∨ d % 9 = 2 ∨ d % 9 = 3 ∨ d % 9 = 4 ∨ d % 9 = 5 ∨ d % 9 = 6 ∨ d % 9 = 7 ∨ d % 9 = 8 := by omega
theorem cells5 {w : World} {b : Nat} {T : TypeId} {a x y z u : Value} (hB : Hid (Blk w b T #[a, x, y, z, u])) : w.cell? ⟨b, 0, none⟩ = some a ∧ w.cell? ⟨b, 1, none⟩ = some x ∧ w.cell? ⟨b, 2, none⟩ = some y ∧ w.cell? ⟨b, 3, none⟩ = some z ∧ w.cell? ⟨b, 4, none⟩ = some u := by
  refine ⟨?_, ?_, ?_, ?_, ?_⟩ <;> rw [hB.out.cell] <;> rfl
theorem cells2 {w : World} {b : Nat} {T : TypeId} {a x : Value} (hB : Hid (Blk w b T #[a, x])) : w.cell? ⟨b, 0, none⟩ = some a ∧ w.cell? ⟨b, 1, none⟩ = some x := by
  refine ⟨?_, ?_⟩ <;> rw [hB.out.cell] <;> rfl
theorem pC_two (o : Option Pr) : ∃ a b, pC o = #[.int .u64 a, .int .u64 b] := by
  cases o with
  | none => exact ⟨0, 0, rfl⟩
  | some p => exact ⟨p.key, p.val, rfl⟩
/-- What do leaves. -/
def DoEnd (W : World) (g g' : Nat) (S : List Pr) (e : Ending) (w' : World) : Prop :=
  e = .returned (.bool true) ∧ ∃ v' S', DSt W w' g v' S' g' S' ∧ S'.length ≤ S.length + 1 ∧ WfP S'
set_option maxRecDepth 100000 in
set_option maxHeartbeats 16000000 in
theorem do_any (W w : World) (g g' : Nat) (v : Value) (S : List Pr) (d k h x b : Int) (hD : Hid (DSt W w g v S g' S)) (hl : S.length ≤ 300000) (hwS : Hid (WfP S)) (wd : 0 ≤ d)
    (wk : (Lit.int .u64 k).wf = true) (wh : (Lit.int .u64 h).wf = true) (wx : (Lit.int .u64 x).wf = true) (wb : (Lit.int .u64 b).wf = true) :
    Calls Try.prog 33 #[.pointer (some ⟨g, 0, none⟩), .pointer (some ⟨g', 0, none⟩), .agg #[.int .u8 d, .int .u64 k, .int .u64 h, .int .u64 x, .int .u64 b]] w (DoEnd W g g' S) := by
  have bh := bounds_u64 wh
  have bb := bounds_u64 wb
  obtain ⟨w1, hw1⟩ : ∃ w1, w.alloc (.cells #[.int .u8 d, .int .u64 k, .int .u64 h, .int .u64 x, .int .u64 b] 62) = w1 := ⟨_, rfl⟩
  have hb1 : Below w.heap.size w w1 := by rw [← hw1]; exact (Below.refl _ _).alloc (Nat.le_refl _) _
  have hB1 : Hid (Blk w1 w.heap.size 62 #[.int .u8 d, .int .u64 k, .int .u64 h, .int .u64 x, .int .u64 b]) := by rw [← hw1]; exact Blk.new w _ _
  obtain ⟨d0, d1, d2, d3, d4⟩ := cells5 hB1
  have hsz : w1.heap.size = w.heap.size + 1 := by rw [← hw1]; simp
  obtain ⟨w2, hw2⟩ : ∃ w2, w1.alloc (.cells #[.int .u64 k, .int .u64 h] 25) = w2 := ⟨_, rfl⟩
  have hb2 : Below w1.heap.size w1 w2 := by rw [← hw2]; exact (Below.refl _ _).alloc (Nat.le_refl _) _
  have hB5 : Hid (Blk w2 w.heap.size 62 #[.int .u8 d, .int .u64 k, .int .u64 h, .int .u64 x, .int .u64 b]) := hB1.out.below hb2 hB1.out.lt
  have hBs : Hid (Blk w2 (w.heap.size + 1) 25 #[.int .u64 k, .int .u64 h]) := by rw [← hw2, ← hsz]; exact Blk.new w1 _ _
  have hD2 := dst_on (dst_on hD hb1) hb2
  have hA5 : Hid (Aside w2 g v w.heap.size) := aside_new hD.out.m (Nat.le_refl _) hB5.out.lt
  have hAs : Hid (Aside w2 g v (w.heap.size + 1)) := aside_new hD.out.m (Nat.le_succ _) hBs.out.lt
  obtain ⟨b0, b1, b2, b3, b4⟩ := cells5 hB5
  obtain ⟨p0, p1⟩ := cells2 hBs
  obtain ⟨r, hrm⟩ : ∃ r, d % 9 = r := ⟨_, rfl⟩
  have hr9 := Lib.hid (rem9 d)
  rw [hrm] at hr9
  clear hD hb1 hb2 hB1
  unfold DoEnd
  go_enter Try.func33, Try.ntmps33
  go_upto_block 0 with fail
  try rw [hw1]
  try rw [hw2]
  try rw [hrm]
  clear hrm hw1 hw2 d0 d1 d2 d3 d4 hsz
  rcases hr9.out with rfl | rfl | rfl | rfl | rfl | rfl | rfl | rfl | rfl
  · as_aux_lemma =>
      go_wp2_with fail
      obtain ⟨lv, hlv⟩ : ∃ lv, valO (look Pr.key S k) = lv := ⟨_, rfl⟩
      obtain ⟨lb, hlb⟩ : ∃ lb, (look Pr.key S k).isSome = lb := ⟨_, rfl⟩
      have e1 : (lv == lv) = true := by simp
      have e2 : (lb == lb) = true := by simp
      refine (getM k w2 (Lib.hid hD2.out.m)).mono ?_
      rintro e w3 ⟨hE, hb⟩
      rw [hlv, hlb] at hE
      subst hE
      have hD3 := dst_on hD2 hb
      have hB3 := Lib.hid (hB5.out.below hb hB5.out.lt)
      have hS3 := Lib.hid (hBs.out.below hb hBs.out.lt)
      obtain ⟨c0, c1, c2, c3, c4⟩ := cells5 hB3
      obtain ⟨s0, s1⟩ := cells2 hS3
      clear hb hD2 hB5 hBs b0 b1 b2 b3 b4 p0 p1
      go_wp2_with fail
      refine (get_any S g' k w3 (Lib.hid hD3.out.r.is)).mono ?_
      rintro e w4 hX
      obtain ⟨hE, hb⟩ := getEnd_val hX
      rw [valO_eq, hlv, hlb] at hE
      subst hE
      have hD4 := dst_on hD3 hb
      clear hX hb hD3 hB3 hS3 c0 c1 c2 c3 c4 s0 s1 hlv hlb
      go_wp2_with fail
      go_ret
      exact ⟨by simp, v, S, hD4.out, by omega, hwS.out⟩
  · as_aux_lemma =>
      go_wp2_with fail
      obtain ⟨lv, hlv⟩ : ∃ lv, valO (look Pr.key S k) = lv := ⟨_, rfl⟩
      obtain ⟨lb, hlb⟩ : ∃ lb, (look Pr.key S k).isSome = lb := ⟨_, rfl⟩
      have e1 : (lv == lv) = true := by simp
      have e2 : (lb == lb) = true := by simp
      refine (putM k x w2 (Lib.hid hD2.out.m) (by omega)).mono ?_
      rintro e w3 ⟨hE, v3, hm, hst⟩
      rw [hlv, hlb] at hE
      subst hE
      have hD3 := Lib.hid (hD2.out.prog hm hst)
      have hB3 := blk_stays hB5 hA5 hst
      have hS3 := blk_stays hBs hAs hst
      obtain ⟨c0, c1, c2, c3, c4⟩ := cells5 hB3
      obtain ⟨s0, s1⟩ := cells2 hS3
      clear hm hst hD2 hB5 hBs b0 b1 b2 b3 b4 p0 p1
      go_wp2_with fail
      refine (put_lo S g' k x w3 (Lib.hid hD3.out.r.is) (by omega)).mono ?_
      rintro e w4 ⟨hE, hR⟩
      rw [valO_eq, hlv, hlb] at hE

      subst hE
      have hD4 := Lib.hid (hD3.out.ref (.inr hR))
      clear hR hD3 hB3 hS3 c0 c1 c2 c3 c4 s0 s1 
      go_wp2_with fail
      go_ret
      exact ⟨by simp, v3, _, hD4.out, set_len _ S, hwS.out.set wk wx⟩
  · as_aux_lemma =>
      go_wp2_with fail
      obtain ⟨lv, hlv⟩ : ∃ lv, valO (look Pr.key S k) = lv := ⟨_, rfl⟩
      obtain ⟨lb, hlb⟩ : ∃ lb, (look Pr.key S k).isSome = lb := ⟨_, rfl⟩
      have e1 : (lv == lv) = true := by simp
      have e2 : (lb == lb) = true := by simp
      refine (pifM k x w2 (Lib.hid hD2.out.m) (by omega)).mono ?_
      rintro e w3 ⟨hE, v3, hm, hst⟩
      rw [hlv, hlb] at hE
      subst hE
      have hD3 := Lib.hid (hD2.out.prog hm hst)
      have hB3 := blk_stays hB5 hA5 hst
      have hS3 := blk_stays hBs hAs hst
      obtain ⟨c0, c1, c2, c3, c4⟩ := cells5 hB3
      obtain ⟨s0, s1⟩ := cells2 hS3
      clear hm hst hD2 hB5 hBs b0 b1 b2 b3 b4 p0 p1
      go_wp2_with fail
      refine (rpif_any S g' k x w3 (Lib.hid hD3.out.r.is) (by omega)).mono ?_
      rintro e w4 ⟨hE, hR⟩
      rw [valO_eq, hlv, hlb] at hE

      subst hE
      have hD4 := Lib.hid (hD3.out.ref hR)
      clear hR hD3 hB3 hS3 c0 c1 c2 c3 c4 s0 s1 
      go_wp2_with fail
      go_ret
      exact ⟨by simp, v3, _, hD4.out, pif_len S k x, hwS.out.pif wk wx⟩
  · as_aux_lemma =>
      go_wp2_with fail
      obtain ⟨lv, hlv⟩ : ∃ lv, valO (look Pr.key S k) = lv := ⟨_, rfl⟩
      obtain ⟨lb, hlb⟩ : ∃ lb, (look Pr.key S k).isSome = lb := ⟨_, rfl⟩
      have e1 : (lv == lv) = true := by simp
      have e2 : (lb == lb) = true := by simp
      refine (delM k w2 (Lib.hid hD2.out.m) (by omega)).mono ?_
      rintro e w3 ⟨hE, v3, hm, hst⟩
      rw [hlv, hlb] at hE
      subst hE
      have hD3 := Lib.hid (hD2.out.prog hm hst)
      have hB3 := blk_stays hB5 hA5 hst
      have hS3 := blk_stays hBs hAs hst
      obtain ⟨c0, c1, c2, c3, c4⟩ := cells5 hB3
      obtain ⟨s0, s1⟩ := cells2 hS3
      clear hm hst hD2 hB5 hBs b0 b1 b2 b3 b4 p0 p1
      go_wp2_with fail
      refine (del_lo S g' k w3 (Lib.hid hD3.out.r.is)).mono ?_
      rintro e w4 ⟨hE, hR⟩
      rw [valO_eq, hlv, hlb] at hE

      subst hE
      have hD4 := Lib.hid (hD3.out.ref (.inr hR))
      clear hR hD3 hB3 hS3 c0 c1 c2 c3 c4 s0 s1 
      go_wp2_with fail
      go_ret
      exact ⟨by simp, v3, _, hD4.out, Nat.le_succ_of_le (out_len k k S), hwS.out.out⟩
  · as_aux_lemma =>
      go_wp2_with fail
      obtain ⟨lv, hlv⟩ : ∃ lv, valO (look Pr.key S k) = lv := ⟨_, rfl⟩
      obtain ⟨lb, hlb⟩ : ∃ lb, (look Pr.key S k).isSome = lb := ⟨_, rfl⟩
      have e1 : (lv == lv) = true := by simp
      have e2 : (lb == lb) = true := by simp
      obtain ⟨cb, hcb⟩ : ∃ cb, casB S k b = cb := ⟨_, rfl⟩
      have e3 : (cb == cb) = true := by simp
      refine (casM k b x w2 (Lib.hid hD2.out.m) (by omega)).mono ?_
      rintro e w3 ⟨hE, v3, hm, hst⟩
      rw [hlv, hlb, hcb] at hE
      subst hE
      have hD3 := Lib.hid (hD2.out.prog hm hst)
      have hB3 := blk_stays hB5 hA5 hst
      have hS3 := blk_stays hBs hAs hst
      obtain ⟨c0, c1, c2, c3, c4⟩ := cells5 hB3
      obtain ⟨s0, s1⟩ := cells2 hS3
      clear hm hst hD2 hB5 hBs b0 b1 b2 b3 b4 p0 p1
      go_wp2_with fail
      refine (rcas_any S g' k b x w3 (Lib.hid hD3.out.r.is) (by omega)).mono ?_
      rintro e w4 ⟨hE, hR⟩
      rw [valO_eq, hlv, hlb] at hE
      rw [show (lb && decide (lv = b)) = cb by rw [← hcb, ← hlv, ← hlb]; rfl] at hE
      subst hE
      have hD4 := Lib.hid (hD3.out.ref (show ROut g' S (if casB S k b = true then setP ⟨k, x⟩ S else S) w3 w4 by unfold casB; rw [← valO_eq]; exact hR))
      clear hR hD3 hB3 hS3 c0 c1 c2 c3 c4 s0 s1 
      go_wp2_with fail
      go_ret
      exact ⟨by simp, v3, _, hD4.out, cas_len S k b x, hwS.out.cas wk wx⟩
  · as_aux_lemma =>
      by_cases hlh : h < k
      · go_wp2_with fail
        refine (move_bad g k h b w2 hlh).mono ?_
        rintro e w3 ⟨rfl, hb⟩
        have hD3 := dst_on hD2 hb
        have hB3 := Lib.hid (hB5.out.below hb hB5.out.lt)
        have hS3 := Lib.hid (hBs.out.below hb hBs.out.lt)
        obtain ⟨c0, c1, c2, c3, c4⟩ := cells5 hB3
        obtain ⟨s0, s1⟩ := cells2 hS3
        clear hb hD2 hB5 hBs b0 b1 b2 b3 b4 p0 p1
        go_wp2_with fail
        refine (mmove_bad S g' k h b w3 (.inl hlh)).mono ?_
        rintro e w4 ⟨rfl, hb⟩
        have hD4 := dst_on hD3 hb
        clear hb hD3 hB3 hS3 c0 c1 c2 c3 c4 s0 s1
        go_wp2_with fail
        go_ret
        exact ⟨by simp, v, S, hD4.out, by omega, hwS.out⟩
      · by_cases hb0 : b = 0
        · subst hb0
          go_wp2_with fail
          refine (move_zero k h w2 (Lib.hid hD2.out.m) (by omega)).mono ?_
          rintro e w3 ⟨rfl, hb⟩
          have hD3 := dst_on hD2 hb
          have hB3 := Lib.hid (hB5.out.below hb hB5.out.lt)
          have hS3 := Lib.hid (hBs.out.below hb hBs.out.lt)
          obtain ⟨c0, c1, c2, c3, c4⟩ := cells5 hB3
          obtain ⟨s0, s1⟩ := cells2 hS3
          clear hb hD2 hB5 hBs b0 b1 b2 b3 b4 p0 p1
          go_wp2_with fail
          refine (mmove_bad S g' k h 0 w3 (.inr rfl)).mono ?_
          rintro e w4 ⟨rfl, hb⟩
          have hD4 := dst_on hD3 hb
          clear hb hD3 hB3 hS3 c0 c1 c2 c3 c4 s0 s1
          go_wp2_with fail
          go_ret
          exact ⟨by simp, v, S, hD4.out, by omega, hwS.out⟩
        · by_cases hov : 18446744073709551615 - h < b
          · go_wp2_with fail
            refine (move_over k h b w2 (Lib.hid hD2.out.m) (by omega) hb0 hov wh).mono ?_
            rintro e w3 ⟨rfl, hb⟩
            have hD3 := dst_on hD2 hb
            have hB3 := Lib.hid (hB5.out.below hb hB5.out.lt)
            have hS3 := Lib.hid (hBs.out.below hb hBs.out.lt)
            obtain ⟨c0, c1, c2, c3, c4⟩ := cells5 hB3
            obtain ⟨s0, s1⟩ := cells2 hS3
            clear hb hD2 hB5 hBs b0 b1 b2 b3 b4 p0 p1
            go_wp2_with fail
            refine (mmove_over S g' k h b w3 (by omega) hov wh).mono ?_
            rintro e w4 ⟨rfl, hb⟩
            have hD4 := dst_on hD3 hb
            clear hb hD3 hB3 hS3 c0 c1 c2 c3 c4 s0 s1
            go_wp2_with fail
            go_ret
            exact ⟨by simp, v, S, hD4.out, by omega, hwS.out⟩
          · obtain ⟨nI, hnI⟩ : ∃ nI, (inR k h S).length = nI := ⟨_, rfl⟩
            have e1 : ((nI : Int) == (nI : Int)) = true := by simp
            go_wp2_with fail
            refine (moveM k h b w2 (Lib.hid hD2.out.m) (by omega) (by omega) hb0 (by omega) hwS.out.key wh wb).mono ?_
            rintro e w3 ⟨hE, v3, hm, hst⟩
            rw [hnI] at hE
            subst hE
            have hD3 := Lib.hid (hD2.out.prog hm hst)
            have hB3 := blk_stays hB5 hA5 hst
            have hS3 := blk_stays hBs hAs hst
            obtain ⟨c0, c1, c2, c3, c4⟩ := cells5 hB3
            obtain ⟨s0, s1⟩ := cells2 hS3
            clear hm hst hD2 hB5 hBs b0 b1 b2 b3 b4 p0 p1
            go_wp2_with fail
            refine (mmove_lo S g' k h b w3 (Lib.hid hD3.out.r.is) (by omega) (by omega) (by omega) hwS.out wh wb).mono ?_
            rintro e w4 ⟨hE, hR⟩
            rw [hnI] at hE
            subst hE
            have hD4 := Lib.hid (hD3.out.ref (.inr hR))
            clear hR hD3 hB3 hS3 c0 c1 c2 c3 c4 s0 s1 hnI
            go_wp2_with fail
            go_ret
            exact ⟨by simp, v3, _, hD4.out, Nat.le_succ_of_le (moved_len k h b S), hwS.out.moved wk wb (by omega)⟩
  · as_aux_lemma =>
      by_cases hlh : h < k
      · go_wp2_with fail
        refine (delR_bad g k h w2 hlh).mono ?_
        rintro e w3 ⟨rfl, hb⟩
        have hD3 := dst_on hD2 hb
        have hB3 := Lib.hid (hB5.out.below hb hB5.out.lt)
        have hS3 := Lib.hid (hBs.out.below hb hBs.out.lt)
        obtain ⟨c0, c1, c2, c3, c4⟩ := cells5 hB3
        obtain ⟨s0, s1⟩ := cells2 hS3
        clear hb hD2 hB5 hBs b0 b1 b2 b3 b4 p0 p1
        go_wp2_with fail
        refine (delR_no S g' k h w3 (Lib.hid hD3.out.r.is) hlh).mono ?_
        rintro e w4 ⟨rfl, hb⟩
        have hD4 := dst_on hD3 hb
        clear hb hD3 hB3 hS3 c0 c1 c2 c3 c4 s0 s1
        go_wp2_with fail
        go_ret
        exact ⟨by simp, v, S, hD4.out, by omega, hwS.out⟩
      · obtain ⟨nI, hnI⟩ : ∃ nI, (inR k h S).length = nI := ⟨_, rfl⟩
        have e1 : ((nI : Int) == (nI : Int)) = true := by simp
        go_wp2_with fail
        refine (delRM k h w2 (Lib.hid hD2.out.m) (by omega)).mono ?_
        rintro e w3 ⟨hE, v3, hm, hst⟩
        rw [hnI] at hE
        subst hE
        have hD3 := Lib.hid (hD2.out.prog hm hst)
        have hB3 := blk_stays hB5 hA5 hst
        have hS3 := blk_stays hBs hAs hst
        obtain ⟨c0, c1, c2, c3, c4⟩ := cells5 hB3
        obtain ⟨s0, s1⟩ := cells2 hS3
        clear hm hst hD2 hB5 hBs b0 b1 b2 b3 b4 p0 p1
        go_wp2_with fail
        refine (delR_lo S g' k h w3 (Lib.hid hD3.out.r.is) (by omega)).mono ?_
        rintro e w4 ⟨hE, hR⟩
        rw [hnI] at hE
        subst hE
        have hD4 := Lib.hid (hD3.out.ref (.inr hR))
        clear hR hD3 hB3 hS3 c0 c1 c2 c3 c4 s0 s1 hnI
        go_wp2_with fail
        go_ret
        exact ⟨by simp, v3, _, hD4.out, Nat.le_succ_of_le (out_len k h S), hwS.out.out⟩
  · as_aux_lemma =>
      by_cases hlh : h < k
      · go_wp2_with fail
        refine (rng_no g k h w2 hlh).mono ?_
        rintro e w3 ⟨rfl, hb⟩
        have hD3 := dst_on hD2 hb
        have hB3 := Lib.hid (hB5.out.below hb hB5.out.lt)
        have hS3 := Lib.hid (hBs.out.below hb hBs.out.lt)
        obtain ⟨c0, c1, c2, c3, c4⟩ := cells5 hB3
        obtain ⟨s0, s1⟩ := cells2 hS3
        clear hb hD2 hB5 hBs b0 b1 b2 b3 b4 p0 p1
        go_wp2_with fail
        refine (rrange_no g' k h w3 hlh).mono ?_
        rintro e w4 ⟨rfl, hb⟩
        have hD4 := dst_on hD3 hb
        clear hb hD3 hB3 hS3 c0 c1 c2 c3 c4 s0 s1
        go_wp2_with fail
        refine (sameP [] none none 0 0 0 0 w4 (Lib.hid Reads.none_) (Lib.hid Reads.none_) (by omega)).mono ?_
        rintro e w5 ⟨rfl, hb⟩
        have hD5 := dst_on hD4 hb
        clear hb hD4
        go_wp2_with fail
        go_ret
        exact ⟨by simp, v, S, hD5.out, by omega, hwS.out⟩
      · obtain ⟨R, hR⟩ : ∃ R, inR k h S = R := ⟨_, rfl⟩
        obtain ⟨nI, hnI⟩ : ∃ nI, R.length = nI := ⟨_, rfl⟩
        have hIle : nI ≤ 300000 := by rw [← hnI, ← hR]; have h1 := inR_le k h S; omega
        go_wp2_with fail
        refine (rngM k h w2 (Lib.hid hD2.out.m) (by omega) (by omega)).mono ?_
        rintro e w3 ⟨RA, RC, hE, hown, hb⟩
        rw [hR, hnI] at hE hown
        subst hE
        have hD3 := dst_on hD2 hb
        have hB3 := Lib.hid (hB5.out.below hb hB5.out.lt)
        have hS3 := Lib.hid (hBs.out.below hb hBs.out.lt)
        have ha3 : Hid (Reads w3 w3.heap.size 2 RA nI (prs R)) := Reads.of_own hown
        obtain ⟨c0, c1, c2, c3, c4⟩ := cells5 hB3
        obtain ⟨s0, s1⟩ := cells2 hS3
        clear hb hown hD2 hB5 hBs b0 b1 b2 b3 b4 p0 p1
        go_wp2_with fail
        refine (rrange_any S g' k h w3 (Lib.hid hD3.out.r.is) (by omega) (by omega)).mono ?_
        rintro e w4 ⟨QA, QC, hE, hown, hb⟩
        rw [hR, hnI] at hE hown
        subst hE
        have hD4 := dst_on hD3 hb
        have ha4 := reads_on ha3 hb
        have hq4 : Hid (Reads w4 w4.heap.size 2 QA nI (prs R)) := Reads.of_own hown
        clear hb hown hD3 hB3 hS3 ha3 c0 c1 c2 c3 c4 s0 s1 hR hnI
        go_wp2_with fail
        refine (sameP R RA QA nI nI RC QC w4 ha4 hq4 (by omega)).mono ?_
        rintro e w5 ⟨rfl, hb⟩
        have hD5 := dst_on hD4 hb
        clear hb hD4 ha4 hq4
        go_wp2_with fail
        go_ret
        exact ⟨by simp, v, S, hD5.out, by omega, hwS.out⟩
  · as_aux_lemma =>
      by_cases hlh : h < k
      · obtain ⟨pa, hpa⟩ : ∃ pa : Int, pa = 0 := ⟨0, rfl⟩
        obtain ⟨pb, hpb⟩ : ∃ pb : Int, pb = 0 := ⟨0, rfl⟩
        have hpc : pC none = #[.int .u64 pa, .int .u64 pb] := by rw [hpa, hpb]; rfl
        clear hpa hpb
        have heq : ∀ w, (Op.equalIn 10000 38 (.agg #[.int .u64 pa, .int .u64 pb]) (.agg #[.int .u64 pa, .int .u64 pb])).run Try.prog w = .ok true w := fun w => by rw [eqP]; simp
        go_wp2_with fail
        refine (next_no g k h w2 hlh).mono ?_
        rintro e w3 ⟨hE, hb⟩
        rw [hpc] at hE
        subst hE
        obtain ⟨w4, hw4⟩ : ∃ w4, w3.alloc (.cells #[.int .u64 pa, .int .u64 pb] 38) = w4 := ⟨_, rfl⟩
        have hb4 : Below w3.heap.size w3 w4 := by rw [← hw4]; exact (Below.refl _ _).alloc (Nat.le_refl _) _
        have hP4 : Hid (Blk w4 w3.heap.size 38 #[.int .u64 pa, .int .u64 pb]) := by rw [← hw4]; exact Blk.new _ _ _
        have hD4 := dst_on (dst_on hD2 hb) hb4
        have hS4 : Hid (Blk w4 (w.heap.size + 1) 25 #[.int .u64 k, .int .u64 h]) := (hBs.out.below hb hBs.out.lt).below hb4 (hBs.out.below hb hBs.out.lt).lt
        have hS3 := Lib.hid (hBs.out.below hb hBs.out.lt)
        obtain ⟨s0, s1⟩ := cells2 hS4
        obtain ⟨r0, r1⟩ := cells2 hS3
        clear hb hb4 hD2 hB5 b0 b1 b2 b3 b4 p0 p1
        go_wp2_with fail
        try rw [hw4]
        refine (rnext_no g' k h w4 hlh).mono ?_
        rintro e w5 ⟨hE, hb⟩
        rw [hpc] at hE
        subst hE
        have hD5 := dst_on hD4 hb
        have hP5 := Lib.hid (hP4.out.below hb hP4.out.lt)
        have hD6 : Hid (DSt W (w5.alloc (.cells #[.int .u64 pa, .int .u64 pb] 38)) g v S g' S) := dst_on hD5 ((Below.refl _ _).alloc (Nat.le_refl _) _)
        have hP6 : Hid (Blk (w5.alloc (.cells #[.int .u64 pa, .int .u64 pb] 38)) w3.heap.size 38 #[.int .u64 pa, .int .u64 pb]) := hP5.out.alloc _
        obtain ⟨m0, m1⟩ := cells2 hP6
        clear hb hD4 hP4 hP5 hS4 hS3 s0 s1 r0 r1 hw4 hD5
        go_wp2_with fail
        go_ret
        exact ⟨by simp, v, S, hD6.out, by omega, hwS.out⟩
      · obtain ⟨pa, pb, hpc⟩ := pC_two (inR k h S).head?
        obtain ⟨lb, hlb⟩ : ∃ lb, (inR k h S).head?.isSome = lb := ⟨_, rfl⟩
        have e2 : (lb == lb) = true := by simp
        have heq : ∀ w, (Op.equalIn 10000 38 (.agg #[.int .u64 pa, .int .u64 pb]) (.agg #[.int .u64 pa, .int .u64 pb])).run Try.prog w = .ok true w := fun w => by rw [eqP]; simp
        go_wp2_with fail
        refine (nextM k h w2 (Lib.hid hD2.out.m) (by omega)).mono ?_
        rintro e w3 ⟨hE, hb⟩
        rw [hpc, hlb] at hE
        subst hE
        obtain ⟨w4, hw4⟩ : ∃ w4, w3.alloc (.cells #[.int .u64 pa, .int .u64 pb] 38) = w4 := ⟨_, rfl⟩
        have hb4 : Below w3.heap.size w3 w4 := by rw [← hw4]; exact (Below.refl _ _).alloc (Nat.le_refl _) _
        have hP4 : Hid (Blk w4 w3.heap.size 38 #[.int .u64 pa, .int .u64 pb]) := by rw [← hw4]; exact Blk.new _ _ _
        have hD4 := dst_on (dst_on hD2 hb) hb4
        have hS4 : Hid (Blk w4 (w.heap.size + 1) 25 #[.int .u64 k, .int .u64 h]) := (hBs.out.below hb hBs.out.lt).below hb4 (hBs.out.below hb hBs.out.lt).lt
        have hS3 := Lib.hid (hBs.out.below hb hBs.out.lt)
        obtain ⟨s0, s1⟩ := cells2 hS4
        obtain ⟨r0, r1⟩ := cells2 hS3
        clear hb hb4 hD2 hB5 b0 b1 b2 b3 b4 p0 p1
        go_wp2_with fail
        try rw [hw4]
        refine (rnext_any S g' k h w4 (Lib.hid hD4.out.r.is) (by omega) (by omega)).mono ?_
        rintro e w5 ⟨hE, hb⟩
        rw [hpc, hlb] at hE
        subst hE
        have hD5 := dst_on hD4 hb
        have hP5 := Lib.hid (hP4.out.below hb hP4.out.lt)
        have hD6 : Hid (DSt W (w5.alloc (.cells #[.int .u64 pa, .int .u64 pb] 38)) g v S g' S) := dst_on hD5 ((Below.refl _ _).alloc (Nat.le_refl _) _)
        have hP6 : Hid (Blk (w5.alloc (.cells #[.int .u64 pa, .int .u64 pb] 38)) w3.heap.size 38 #[.int .u64 pa, .int .u64 pb]) := hP5.out.alloc _
        obtain ⟨m0, m1⟩ := cells2 hP6
        clear hb hD4 hP4 hP5 hS4 hS3 s0 s1 r0 r1 hw4 hD5
        go_wp2_with fail
        go_ret
        exact ⟨by simp, v, S, hD6.out, by omega, hwS.out⟩
end Go.Proofs.Ytfghkmhabpagkaa
