/- The law OmapKeeps, walked (printed by gen_lawkeep.py). -/
import Derived.Test.YtfghkmhabpagkaaLawRet
import Derived.Test.YtfghkmhabpagkaaLawTwo
import Derived.Deep.CutBlock
namespace Go.Proofs.Ytfghkmhabpagkaa
open Go Go.RowKit
set_option linter.unusedVariables false
attribute [local go_sem ↓] Go.wp_at_zero Go.wp_at_succ

theorem box5 {W w : World} {b : Nat} {T : TypeId} {a x y z u : Value} (hB : Hid (Blk W b T #[a, x, y, z, u])) (hb : Below W.heap.size W w) : w.cell? ⟨b, 0, none⟩ = some a ∧ w.cell? ⟨b, 1, none⟩ = some x ∧ w.cell? ⟨b, 2, none⟩ = some y ∧ w.cell? ⟨b, 3, none⟩ = some z ∧ w.cell? ⟨b, 4, none⟩ = some u :=
  ⟨(hb.cell (p := ⟨b, 0, none⟩) hB.out.lt).trans (by simpa using hB.out.cell 0), (hb.cell (p := ⟨b, 1, none⟩) hB.out.lt).trans (by simpa using hB.out.cell 1), (hb.cell (p := ⟨b, 2, none⟩) hB.out.lt).trans (by simpa using hB.out.cell 2), (hb.cell (p := ⟨b, 3, none⟩) hB.out.lt).trans (by simpa using hB.out.cell 3), (hb.cell (p := ⟨b, 4, none⟩) hB.out.lt).trans (by simpa using hB.out.cell 4)⟩
theorem MapAt.set_far {B w : World} {g q i : Nat} {v u : Value} {l : List Pr} (h : MapAt B w g v l) (ha : Aside w g v q) (hq : B.heap.size ≤ q) : MapAt B (w.setCell ⟨q, i, none⟩ u) g v l := by
  refine ⟨⟨h.o.lo, h.o.blk.far (Ne.symm ha.2.1) u, ?_, h.o.srt, h.o.len⟩, h.bel.setCell (p := ⟨q, i, none⟩) hq u⟩
  exact h.o.own.kept (but_set_ w q i u) (.inr ha.2.2)
theorem Aside.set_ {w : World} {g q p i : Nat} {v u : Value} (h : Aside w g v q) : Aside (w.setCell ⟨p, i, none⟩ u) g v q := ⟨by simpa using h.1, h.2⟩
theorem kp_set {w : World} {g q i size n : Nat} {v u : Value} {A : Option Addr} {xs : List Value} (h : Hid (Kp w g v size A n xs)) (hne : ∀ ad, A = some ad → 0 < n → ad.block ≠ q) : Hid (Kp (w.setCell ⟨q, i, none⟩ u) g v size A n xs) := by
  obtain ⟨h1, h2⟩ := h.out
  refine ⟨⟨h1.1, fun hn => ?_⟩, fun ad e hn => (h2 ad e hn).set_⟩
  obtain ⟨ad, e, hb, hc⟩ := h1.2 hn
  refine ⟨ad, e, by simpa using hb, fun j x hx => ?_⟩
  rw [cell_block j (Below.heap_setCell w ⟨q, i, none⟩ u ad.block (hne ad e hn))]
  exact hc j x hx
theorem blk_stays {w w' : World} {g q : Nat} {v v' : Value} {T : TypeId} {cs : Array Value} (hB : Hid (Blk w q T cs)) (ha : Hid (Aside w g v q)) (hs : Stays w w' g v v') : Hid (Blk w' q T cs) := (hs.1.block q ha.out.1 ha.out.2.1 ha.out.2.2).trans hB.out
/-- What is kept: a key that is not named reads as before. -/
def KeepP (S T : List Pr) (lo H ec : Int) : Prop := ∀ k, (ec ≠ 0 ∨ k < lo ∨ H < k) → look Pr.key T k = look Pr.key S k
theorem keep_set {S : List Pr} {k v : Int} (hs : Srt Pr.key S) : KeepP S (setP ⟨k, v⟩ S) k k 0 := fun j hj => by
  rw [(set_spec ⟨k, v⟩ S hs).2 j, if_neg (show ¬ k = j by omega)]
theorem keep_same {S : List Pr} {lo H ec : Int} : KeepP S S lo H ec := fun _ _ => rfl
theorem keep_out {S : List Pr} {lo H : Int} : KeepP S (outR lo H S) lo H 0 := fun j hj => by
  rw [look_out, if_neg]
  intro h
  simp [inB] at h
  omega
theorem keep_moved {S : List Pr} {lo hi by_ : Int} (hs : Srt Pr.key S) (hb : 0 ≤ by_) (h : lo ≤ hi) : KeepP S (moved lo hi by_ S) lo (hi + by_) 0 := fun j hj => by
  rw [(moved_spec lo hi by_ hs).2, look_sh, look_in, if_neg (show ¬ inB lo hi (j - by_) = true by intro h; simp [inB] at h; omega), Option.map_none]
  dsimp only
  rw [if_neg (show ¬ inB lo hi j = true by intro h; simp [inB] at h; omega)]
theorem pif_len (S : List Pr) (k v : Int) : (pifL S k v).length ≤ S.length + 1 := by
  unfold pifL
  split
  · omega
  · exact set_len _ _
theorem keep_pif {S : List Pr} {k v : Int} (hs : Srt Pr.key S) : KeepP S (pifL S k v) k k 0 := by
  unfold pifL
  split
  · exact keep_same
  · exact keep_set hs
theorem keep_cas {S : List Pr} {k o v : Int} (hs : Srt Pr.key S) : KeepP S (if casB S k o = true then setP ⟨k, v⟩ S else S) k k 0 := by
  split
  · exact keep_set hs
  · exact keep_same
theorem cas_len (S : List Pr) (k o v : Int) : (if casB S k o = true then setP ⟨k, v⟩ S else S).length ≤ S.length + 1 := by
  split
  · exact set_len _ _
  · omega
theorem out_len (lo hi : Int) (S : List Pr) : (outR lo hi S).length ≤ S.length := List.length_filter_le _ _
theorem rem_cases (d : Int) : d % 6 = 0 ∨ d % 6 = 1 ∨ d % 6 = 2 ∨ d % 6 = 3 ∨ d % 6 = 4 ∨ d % 6 = 5 := by omega

set_option maxRecDepth 100000 in
set_option maxHeartbeats 16000000 in
theorem keeps_core (A : Option Addr) (n c : Nat) (l : List Pr) (d xk xh xv xb : Int) (w : World) (hr : Hid (Reads w w.heap.size 2 A n (prs l))) (hz : n * 16 ≤ 140737488351232) (hw : ∀ p ∈ l, (Lit.int .u64 p.key).wf = true) (wd : 0 ≤ d) (wxk : (Lit.int .u64 xk).wf = true) (wxh : (Lit.int .u64 xh).wf = true) (wxb : (Lit.int .u64 xb).wf = true) :
    Calls Try.prog 7 #[.slice A n c, .agg #[.int .u8 d, .int .u64 xk, .int .u64 xh, .int .u64 xv, .int .u64 xb]] w fun e w' => e = .returned (.bool true) ∧ Below w.heap.size w w' := by
  have bk := bounds_u64 wxk
  have bh := bounds_u64 wxh
  have bb := bounds_u64 wxb
  have hll := Lib.hid (prs_n hr.out)
  obtain ⟨W, hW⟩ : ∃ W, w.alloc (.cells #[.int .u8 d, .int .u64 xk, .int .u64 xh, .int .u64 xv, .int .u64 xb] 62) = W := ⟨_, rfl⟩
  have hb0 : Hid (Below w.heap.size w W) := by rw [← hW]; exact (Below.refl _ _).alloc (Nat.le_refl _) _
  have hBx : Hid (Blk W w.heap.size 62 #[.int .u8 d, .int .u64 xk, .int .u64 xh, .int .u64 xv, .int .u64 xb]) := by rw [← hW]; exact Blk.new w _ _
  have hr0 : Hid (Reads W W.heap.size 2 A n (prs l)) := (hr.out.below hb0.out).more hb0.out.size
  have hmade := made_any l A n c W hr0 hz
  clear hr
  by_cases t1 : 60 < n
  · have d1 : (60 : Int) < (n : Int) := by omega
    have hmk : Calls Try.prog 11 #[.slice A n c] W fun e w' => ∃ ad, e = .returned (.pointer ad) ∧ Below W.heap.size W w' := hmade.mono fun e w' h => by
      obtain ⟨hb, ⟨_, h⟩ | ⟨_, g, v, h, _⟩⟩ := h
      · exact ⟨_, h, hb⟩
      · exact ⟨_, h, hb⟩
    clear hmade hr0
    go_enter Try.func7, Try.ntmps7
    go_wp2_with fail
    refine hmk.mono ?_
    rintro e w1 ⟨ad, rfl, hb⟩
    have hb1 := below_on hb0 hb
    clear hb hmk
    go_wp2_with fail
    refine (known_any _).mono ?_
    rintro e w2 ⟨rfl, hb⟩
    have hbe := below_on hb1 hb
    clear hb
    go_wp2_with fail
    go_ret
    exact ⟨rfl, hbe.out⟩
  · have d1 : ¬ (60 : Int) < (n : Int) := by omega
    have hf60 : (firsts l).length ≤ 60 := by
      have h1 := firsts_len l l.length
      rw [← firsts_all, hll.out] at h1
      omega
    have hS60 : (madeL l).length ≤ 60 := Nat.le_trans (madeL_len l) hf60
    have hSw : ∀ p ∈ madeL l, (Lit.int .u64 p.key).wf = true := fun p hp => hw p (madeL_mem hp)
    go_enter Try.func7, Try.ntmps7
    go_wp2_with fail
    try rw [hW]
    refine hmade.mono ?_
    rintro e w1 ⟨hb, ⟨h60, _⟩ | ⟨_, g, v, rfl, ho⟩⟩
    · omega
    have m1 : Hid (MapAt W w1 g v (madeL l)) := ⟨ho, hb⟩
    obtain ⟨S, hS⟩ : ∃ S, madeL l = S := ⟨_, rfl⟩
    rw [hS] at m1 hS60 hSw
    have hs : Hid (Srt Pr.key S) := m1.out.o.srt
    have hSwh := Lib.hid hSw
    clear hmade hb ho hr0 hf60 hS hW hw hSw
    go_wp2_with fail
    refine (pairsM w1 m1).mono ?_
    rintro e w2 ⟨PA, PC, rfl, hown, hb⟩
    have kp2 := kp_new m1.out hown
    have m2 := mapAt_on m1 hb
    obtain ⟨nS, hnS⟩ : ∃ nS, S.length = nS := ⟨_, rfl⟩
    rw [hnS] at kp2 hS60
    have hnSh := Lib.hid hnS
    try rw [hnS]
    clear m1 hown hb hnS
    obtain ⟨b0, b1, b2, b3, b4⟩ := box5 hBx m2.out.bel
    obtain ⟨w3, hw3⟩ : ∃ w3, w2.alloc (.cells #[.int .u64 xk, .int .u64 xk] 25) = w3 := ⟨_, rfl⟩
    have hb23 : Below w2.heap.size w2 w3 := by rw [← hw3]; exact (Below.refl _ _).alloc (Nat.le_refl _) _
    have hBs : Hid (Blk w3 w2.heap.size 25 #[.int .u64 xk, .int .u64 xk]) := by rw [← hw3]; exact Blk.new w2 _ _
    have has3 : Hid (Aside w3 g v w2.heap.size) := aside_new m2.out (Nat.le_refl _) hBs.out.lt
    have m3 := mapAt_on m2 hb23
    have kp3 := kp_on kp2 (Stays.of_below hb23)
    have hWs : W.heap.size ≤ w2.heap.size := m2.out.bel.size
    have hpne : Hid (∀ ad, PA = some ad → 0 < nS → ad.block ≠ w2.heap.size) := fun ad e hn => by have := (kp2.out.2 ad e hn).1; omega
    obtain ⟨bs, hbs⟩ : ∃ bs, w2.heap.size = bs := ⟨_, rfl⟩
    rw [hbs] at hBs has3 hpne hWs
    obtain ⟨n0, n1, n2, n3, n4⟩ := box5 hBx m3.out.bel
    obtain ⟨r, hrm⟩ : ∃ r, d % 6 = r := ⟨_, rfl⟩
    have hr6 := Lib.hid (rem_cases d)
    rw [hrm] at hr6
    go_upto_block 0 with fail
    try rw [hw3]
    try rw [hbs]
    rw [hrm]
    clear m2 kp2 hb23 b0 b1 b2 b3 b4 n0 n1 n2 n3 n4 hw3 hrm
    go_cut [8] from 36 to 115 (fun s8 wx => ∃ (ec : Int) (T : List Pr) (v' : Value) (H : Int), s8 = .int .i64 ec ∧ T.length ≤ 61 ∧ Hid (MapAt W wx g v' T) ∧ Hid (Reads wx wx.heap.size 2 PA nS (prs S)) ∧ Hid (Blk wx bs 25 #[.int .u64 xk, .int .u64 H]) ∧ Hid (KeepP S T xk H ec))
    case first =>
      obtain ⟨b0, b1, b2, b3, b4⟩ := box5 hBx m3.out.bel
      have c0 := hBs.out.cell 0
      have c1 := hBs.out.cell 1
      have cf := hBs.out.frozen 1
      simp only [List.getElem?_toArray, List.getElem?_cons_zero, List.getElem?_cons_succ] at c0 c1
      rcases hr6.out with rfl | rfl | rfl | rfl | rfl | rfl
      · go_wp2_with fail
        refine (putM xk xv w3 m3 (by have := hnSh.out; omega)).mono ?_
        rintro e w4 ⟨hE, v4, hm, hst⟩
        obtain ⟨lv, hlv⟩ : ∃ lv, valO (look Pr.key S xk) = lv := ⟨_, rfl⟩
        obtain ⟨lb, hlb⟩ : ∃ lb, (look Pr.key S xk).isSome = lb := ⟨_, rfl⟩
        rw [hlv, hlb] at hE
        subst hE
        have m4 := Lib.hid hm
        have kp4 := kp_on kp3 hst
        have hB4 := blk_stays hBs has3 hst
        clear hm hst m3 kp3 hBs has3 c0 c1 cf b0 b1 b2 b3 b4 hlv hlb
        go_wp2_with fail
        go_meet
        exact ⟨0, _, v4, xk, rfl, (by have h1 := set_len ⟨xk, xv⟩ S; have := hnSh.out; omega), m4, Lib.hid kp4.out.1, hB4, keep_set hs.out⟩
      · go_wp2_with fail
        refine (pifM xk xv w3 m3 (by have := hnSh.out; omega)).mono ?_
        rintro e w4 ⟨hE, v4, hm, hst⟩
        obtain ⟨lv, hlv⟩ : ∃ lv, valO (look Pr.key S xk) = lv := ⟨_, rfl⟩
        obtain ⟨lb, hlb⟩ : ∃ lb, (look Pr.key S xk).isSome = lb := ⟨_, rfl⟩
        rw [hlv, hlb] at hE
        subst hE
        have m4 := Lib.hid hm
        have kp4 := kp_on kp3 hst
        have hB4 := blk_stays hBs has3 hst
        clear hm hst m3 kp3 hBs has3 c0 c1 cf b0 b1 b2 b3 b4 hlv hlb
        go_wp2_with fail
        go_meet
        exact ⟨0, _, v4, xk, rfl, (by have h1 := pif_len S xk xv; have := hnSh.out; omega), m4, Lib.hid kp4.out.1, hB4, keep_pif hs.out⟩
      · go_wp2_with fail
        refine (delM xk w3 m3 (by have := hnSh.out; omega)).mono ?_
        rintro e w4 ⟨hE, v4, hm, hst⟩
        obtain ⟨lv, hlv⟩ : ∃ lv, valO (look Pr.key S xk) = lv := ⟨_, rfl⟩
        obtain ⟨lb, hlb⟩ : ∃ lb, (look Pr.key S xk).isSome = lb := ⟨_, rfl⟩
        rw [hlv, hlb] at hE
        subst hE
        have m4 := Lib.hid hm
        have kp4 := kp_on kp3 hst
        have hB4 := blk_stays hBs has3 hst
        clear hm hst m3 kp3 hBs has3 c0 c1 cf b0 b1 b2 b3 b4 hlv hlb
        go_wp2_with fail
        go_meet
        exact ⟨0, _, v4, xk, rfl, (by have h1 := out_len xk xk S; have := hnSh.out; omega), m4, Lib.hid kp4.out.1, hB4, keep_out⟩
      · go_wp2_with fail
        refine (casM xk xb xv w3 m3 (by have := hnSh.out; omega)).mono ?_
        rintro e w4 ⟨hE, v4, hm, hst⟩
        obtain ⟨lv, hlv⟩ : ∃ lv, valO (look Pr.key S xk) = lv := ⟨_, rfl⟩
        obtain ⟨lb, hlb⟩ : ∃ lb, (look Pr.key S xk).isSome = lb := ⟨_, rfl⟩
        rw [hlv, hlb] at hE
        obtain ⟨cb, hcb⟩ : ∃ cb, casB S xk xb = cb := ⟨_, rfl⟩
        have hcbh := Lib.hid hcb
        rw [hcb] at hE
        clear hcb
        subst hE
        have m4 := Lib.hid hm
        have kp4 := kp_on kp3 hst
        have hB4 := blk_stays hBs has3 hst
        clear hm hst m3 kp3 hBs has3 c0 c1 cf b0 b1 b2 b3 b4 hlv hlb
        go_wp2_with fail
        go_meet
        exact ⟨0, _, v4, xk, rfl, (by have h1 := cas_len S xk xb xv; have := hnSh.out; omega), m4, Lib.hid kp4.out.1, hB4, keep_cas hs.out⟩
      · obtain ⟨w4, hw4⟩ : ∃ w4, w3.setCell ⟨bs, 1, none⟩ (.int .u64 xh) = w4 := ⟨_, rfl⟩
        have m4 : Hid (MapAt W w4 g v S) := by rw [← hw4]; exact m3.out.set_far has3.out hWs
        have kp4 : Hid (Kp w4 g v 2 PA nS (prs S)) := by rw [← hw4]; exact kp_set kp3 hpne.out
        have hB4 : Hid (Blk w4 bs 25 #[.int .u64 xk, .int .u64 xh]) := by rw [← hw4]; exact hBs.out.set_ 1 _
        have has4 : Hid (Aside w4 g v bs) := by rw [← hw4]; exact has3.out.set_
        obtain ⟨e0, e1, e2, e3, e4⟩ := box5 hBx m4.out.bel
        have g0 := hB4.out.cell 0
        have g1 := hB4.out.cell 1
        have gf := hB4.out.frozen 1
        simp only [List.getElem?_toArray, List.getElem?_cons_zero, List.getElem?_cons_succ] at g0 g1
        by_cases hlh : xh < xk
        · go_wp2_with fail
          try rw [hw4]
          clear hw4
          clear m3 kp3 hBs has3 c0 c1 cf b0 b1 b2 b3 b4
          refine (delR_bad g xk xh w4 hlh).mono ?_
          rintro e w5 ⟨rfl, hb⟩
          have m5 := mapAt_on m4 hb
          have kp5 := kp_on kp4 (Stays.of_below hb)
          have hB5 : Hid (Blk w5 bs 25 #[.int .u64 xk, .int .u64 xh]) := hB4.out.below hb hB4.out.lt
          clear m4 kp4 hB4 has4 hb e0 e1 e2 e3 e4 g0 g1 gf
          go_wp2_with fail
          go_meet
          exact ⟨13, S, v, xh, rfl, (by have := hnSh.out; omega), m5, Lib.hid kp5.out.1, hB5, keep_same⟩
        · go_wp2_with fail
          try rw [hw4]
          clear hw4
          clear m3 kp3 hBs has3 c0 c1 cf b0 b1 b2 b3 b4
          refine (delRM xk xh w4 m4 (by omega)).mono ?_
          rintro e w5 ⟨rfl, v5, hm, hst⟩
          have m5 := Lib.hid hm
          have kp5 := kp_on kp4 hst
          have hB5 := blk_stays hB4 has4 hst
          obtain ⟨nI, hnI⟩ : ∃ nI, (inR xk xh S).length = nI := ⟨_, rfl⟩
          try rw [hnI]
          clear m4 kp4 hB4 has4 hm hst e0 e1 e2 e3 e4 g0 g1 gf hnI
          go_wp2_with fail
          go_meet
          exact ⟨0, _, v5, xh, rfl, (by have h1 := out_len xk xh S; have := hnSh.out; omega), m5, Lib.hid kp5.out.1, hB5, keep_out⟩
      · obtain ⟨w4, hw4⟩ : ∃ w4, w3.setCell ⟨bs, 1, none⟩ (.int .u64 xh) = w4 := ⟨_, rfl⟩
        have m4 : Hid (MapAt W w4 g v S) := by rw [← hw4]; exact m3.out.set_far has3.out hWs
        have kp4 : Hid (Kp w4 g v 2 PA nS (prs S)) := by rw [← hw4]; exact kp_set kp3 hpne.out
        have hB4 : Hid (Blk w4 bs 25 #[.int .u64 xk, .int .u64 xh]) := by rw [← hw4]; exact hBs.out.set_ 1 _
        have has4 : Hid (Aside w4 g v bs) := by rw [← hw4]; exact has3.out.set_
        obtain ⟨e0, e1, e2, e3, e4⟩ := box5 hBx m4.out.bel
        have g0 := hB4.out.cell 0
        have g1 := hB4.out.cell 1
        have gf := hB4.out.frozen 1
        simp only [List.getElem?_toArray, List.getElem?_cons_zero, List.getElem?_cons_succ] at g0 g1
        by_cases hlh : xh < xk
        · go_wp2_with fail
          try rw [hw4]
          clear hw4
          clear m3 kp3 hBs has3 c0 c1 cf b0 b1 b2 b3 b4
          refine (move_bad g xk xh xb w4 hlh).mono ?_
          rintro e w5 ⟨rfl, hb⟩
          have m5 := mapAt_on m4 hb
          have kp5 := kp_on kp4 (Stays.of_below hb)
          have hB5 : Hid (Blk w5 bs 25 #[.int .u64 xk, .int .u64 xh]) := hB4.out.below hb hB4.out.lt
          clear m4 kp4 hB4 has4 hb e0 e1 e2 e3 e4 g0 g1 gf
          go_wp2_with fail
          go_meet
          exact ⟨13, S, v, xh, rfl, (by have := hnSh.out; omega), m5, Lib.hid kp5.out.1, hB5, keep_same⟩
        · by_cases hb0' : xb = 0
          · subst hb0'
            go_wp2_with fail
            try rw [hw4]
            clear hw4
            clear m3 kp3 hBs has3 c0 c1 cf b0 b1 b2 b3 b4
            refine (move_zero xk xh w4 m4 (by omega)).mono ?_
            rintro e w5 ⟨rfl, hb⟩
            have m5 := mapAt_on m4 hb
            have kp5 := kp_on kp4 (Stays.of_below hb)
            have hB5 : Hid (Blk w5 bs 25 #[.int .u64 xk, .int .u64 xh]) := hB4.out.below hb hB4.out.lt
            clear m4 kp4 hB4 has4 hb e0 e1 e2 e3 e4 g0 g1 gf
            go_wp2_with fail
            go_meet
            exact ⟨13, S, v, xh, rfl, (by have := hnSh.out; omega), m5, Lib.hid kp5.out.1, hB5, keep_same⟩
          · by_cases hov : 18446744073709551615 - xh < xb
            · go_wp2_with fail
              try rw [hw4]
              clear hw4
              clear m3 kp3 hBs has3 c0 c1 cf b0 b1 b2 b3 b4
              refine (move_over xk xh xb w4 m4 (by omega) hb0' hov wxh).mono ?_
              rintro e w5 ⟨rfl, hb⟩
              have m5 := mapAt_on m4 hb
              have kp5 := kp_on kp4 (Stays.of_below hb)
              have hB5 : Hid (Blk w5 bs 25 #[.int .u64 xk, .int .u64 xh]) := hB4.out.below hb hB4.out.lt
              clear m4 kp4 hB4 has4 hb e0 e1 e2 e3 e4 g0 g1 gf
              go_wp2_with fail
              go_meet
              exact ⟨12, S, v, xh, rfl, (by have := hnSh.out; omega), m5, Lib.hid kp5.out.1, hB5, keep_same⟩
            · go_wp2_with fail
              try rw [hw4]
              clear hw4
              clear m3 kp3 hBs has3 c0 c1 cf b0 b1 b2 b3 b4
              refine (moveM xk xh xb w4 m4 (by have := hnSh.out; omega) (by omega) hb0' (by omega) hSwh.out wxh wxb).mono ?_
              rintro e w5 ⟨rfl, v5, hm, hst⟩
              have m5 := Lib.hid hm
              have kp5 := kp_on kp4 hst
              have hB5 := blk_stays hB4 has4 hst
              have has5 : Hid (Aside w5 g v5 bs) := has4.out.on hst
              obtain ⟨nI, hnI⟩ : ∃ nI, (inR xk xh S).length = nI := ⟨_, rfl⟩
              try rw [hnI]
              clear m4 kp4 hB4 has4 hm hst e0 e1 e2 e3 e4 g0 g1 gf hnI
              obtain ⟨e0, e1, e2, e3, e4⟩ := box5 hBx m5.out.bel
              have g0 := hB5.out.cell 0
              have g1 := hB5.out.cell 1
              have gf := hB5.out.frozen 1
              simp only [List.getElem?_toArray, List.getElem?_cons_zero, List.getElem?_cons_succ] at g0 g1
              have sA : IntKind.u64.wrap (xh + xb) = xh + xb := u64_add bh.1 bb.1 (by omega)
              have m6 : Hid (MapAt W (w5.setCell ⟨bs, 1, none⟩ (.int .u64 (xh + xb))) g v5 (moved xk xh xb S)) := m5.out.set_far has5.out hWs
              have kp6 : Hid (Kp (w5.setCell ⟨bs, 1, none⟩ (.int .u64 (xh + xb))) g v5 2 PA nS (prs S)) := kp_set kp5 hpne.out
              have hB6 : Hid (Blk (w5.setCell ⟨bs, 1, none⟩ (.int .u64 (xh + xb))) bs 25 #[.int .u64 xk, .int .u64 (xh + xb)]) := hB5.out.set_ 1 _
              have hkm : Hid (KeepP S (moved xk xh xb S) xk (xh + xb) 0) := keep_moved hs.out bb.1 (by omega)
              go_wp2_with fail
              go_meet
              exact ⟨0, _, v5, xh + xb, rfl, (by have h1 := moved_len xk xh xb S; have := hnSh.out; omega), m6, Lib.hid kp6.out.1, hB6, hkm⟩
    case rest =>
      obtain ⟨ec, T, v6, H, rfl, hT61, m6, hq6, hB6, hkeep⟩ := hcut
      obtain ⟨w6, rfl⟩ : ∃ w6 : World, w6 = wc := ⟨_, rfl⟩
      have hTs : Hid (Srt Pr.key T) := m6.out.o.srt
      obtain ⟨nT, hnT⟩ : ∃ nT, T.length = nT := ⟨_, rfl⟩
      have hnTh := Lib.hid hnT
      rw [hnT] at hT61
      clear m3 kp3 hBs has3
      go_wp2_with fail
      refine (pairsM w6 m6).mono ?_
      rintro e w7 ⟨QA, QC, rfl, hown, hb⟩
      have hr7 : Hid (Reads w7 w7.heap.size 2 QA nT (prs T)) := by have h1 := Reads.of_own hown; rw [hnT] at h1; exact h1
      have hq7 := reads_on hq6 hb
      have m7 := mapAt_on m6 hb
      have hB7 : Hid (Blk w7 bs 25 #[.int .u64 xk, .int .u64 H]) := hB6.out.below hb hB6.out.lt
      try rw [hnT]
      clear m6 hq6 hB6 hown hb hnT
      go_wp2_with fail
      refine (ascL_any T QA nT QC w7 hr7 (by omega)).mono ?_
      rintro e w9 ⟨hE, _, hb⟩
      replace hE := hE hTs.out
      subst hE
      have hr9 := reads_on hr7 hb
      have hq9 := reads_on hq7 hb
      have m9 := mapAt_on m7 hb
      have hB9 : Hid (Blk w9 bs 25 #[.int .u64 xk, .int .u64 H]) := hB7.out.below hb hB7.out.lt
      clear hb hr7 hq7 m7 hB7
      go_wp2_with fail
      refine (lenM w9 m9).mono ?_
      rintro e w8 ⟨hE, hb⟩
      rw [hnTh.out] at hE
      subst hE
      have hr8 := reads_on hr9 hb
      have hq8 := reads_on hq9 hb
      have m8 := mapAt_on m9 hb
      have hB8 : Hid (Blk w8 bs 25 #[.int .u64 xk, .int .u64 H]) := hB9.out.below hb hB9.out.lt
      clear hb hr9 hq9 m9 hB9
      go_wp2_with fail
      go_loopg [10] nS (fun gk iv w' => ∃ i : Nat, i + gk = nS ∧ iv = .int .i64 i ∧ Hid (Below w8.heap.size w8 w'))
      case atStart => exact ⟨0, by omega, rfl, Below.refl _ _⟩
      case round =>
        skip
        obtain ⟨i, hi, rfl, hbel⟩ := hrel
        cases gk with
        | zero =>
          obtain rfl : nS = i := by omega
          go_wp2_with fail
          go_loopg [14] nT (fun gk iv w' => ∃ i : Nat, i + gk = nT ∧ iv = .int .i64 i ∧ Hid (Below w8.heap.size w8 w'))
          case atStart => exact ⟨0, by omega, rfl, hbel.out⟩
          case round =>
            clear hbel
            obtain ⟨i, hi, rfl, hbel⟩ := hrel
            cases gk with
            | zero =>
              obtain rfl : nT = i := by omega
              go_wp2_with fail
              refine (known_any _).mono ?_
              rintro e wz ⟨rfl, hb⟩
              have hbe := below_on (below_on hb0 (mapAt_on m8 hbel.out).out.bel) hb
              clear hb
              go_wp2_with fail
              go_ret
              exact ⟨rfl, hbe.out⟩
            | succ g3 =>
              have c0 := (hbel.out.cell (p := ⟨bs, 0, none⟩) hB8.out.lt).trans (hB8.out.cell 0)
              have c1 := (hbel.out.cell (p := ⟨bs, 1, none⟩) hB8.out.lt).trans (hB8.out.cell 1)
              simp only [List.getElem?_toArray, List.getElem?_cons_zero, List.getElem?_cons_succ] at c0 c1
              obtain ⟨b, o, rfl, hbB⟩ := reads_head hr8.out (by omega) (by decide)
              obtain ⟨⟨pk, pv⟩, hx, q0, q1⟩ := prs_at (hr8.out.below hbel.out) (show i < nT by omega)
              have hx2 := Lib.hid (look_mem hTs.out (List.mem_of_getElem? hx))
              have i0 : (0 : Int) ≤ (i : Int) := by omega
              have i1 : (i : Int) < (nT : Int) := by omega
              have i2 : i < 61 := by omega
              dsimp only at q0 q1 hx2
              have hbw : b < wr.heap.size := by have := hbel.out.size; omega
              clear hx
              by_cases u1 : ec = 0
              · subst u1
                by_cases u2 : pk < xk
                · have e2 := decide_eq_true u2
                  have hke := Lib.hid (hkeep.out pk (by omega))
                  go_wp2_with fail
                  refine (has_at S PA nS PC pk wr (reads_on hq8 hbel.out) (by omega)).mono ?_
                  rintro e wz ⟨hE, hb⟩
                  rw [← hke.out, hx2.out] at hE
                  replace hE : e = .returned (.tuple #[.int .u64 pv, .bool true]) := hE
                  subst hE
                  have hbz := below_on hbel hb
                  have p0 := (hb.cell (p := ⟨b, o + i * 2, none⟩) hbw).trans q0
                  have p1 := (hb.cell (p := ⟨b, o + i * 2 + 1, none⟩) hbw).trans q1
                  clear hb q0 q1 hbel c0 c1
                  go_wp2_with fail
                  go_roundg g3
                  case measure => omega
                  case rel => exact ⟨i + 1, by omega, by go_num, hbz⟩
                · have e2 := decide_eq_false u2
                  by_cases u3 : H < pk
                  · have e3 := decide_eq_true u3
                    have hke := Lib.hid (hkeep.out pk (by omega))
                    go_wp2_with fail
                    refine (has_at S PA nS PC pk wr (reads_on hq8 hbel.out) (by omega)).mono ?_
                    rintro e wz ⟨hE, hb⟩
                    rw [← hke.out, hx2.out] at hE
                    replace hE : e = .returned (.tuple #[.int .u64 pv, .bool true]) := hE
                    subst hE
                    have hbz := below_on hbel hb
                    have p0 := (hb.cell (p := ⟨b, o + i * 2, none⟩) hbw).trans q0
                    have p1 := (hb.cell (p := ⟨b, o + i * 2 + 1, none⟩) hbw).trans q1
                    clear hb q0 q1 hbel c0 c1
                    go_wp2_with fail
                    go_roundg g3
                    case measure => omega
                    case rel => exact ⟨i + 1, by omega, by go_num, hbz⟩
                  · have e3 := decide_eq_false u3
                    clear hx2 q1
                    go_wp2_with fail
                    go_roundg g3
                    case measure => omega
                    case rel => exact ⟨i + 1, by omega, by go_num, hbel⟩
              · have e1 : (ec == 0) = false := by simpa using u1
                have e1' : (ec != 0) = true := by simpa using u1
                have e1'' : (!(ec == 0)) = true := by simpa using u1
                have hke := Lib.hid (hkeep.out pk (by omega))
                go_wp2_with fail
                refine (has_at S PA nS PC pk wr (reads_on hq8 hbel.out) (by omega)).mono ?_
                rintro e wz ⟨hE, hb⟩
                rw [← hke.out, hx2.out] at hE
                replace hE : e = .returned (.tuple #[.int .u64 pv, .bool true]) := hE
                subst hE
                have hbz := below_on hbel hb
                have p0 := (hb.cell (p := ⟨b, o + i * 2, none⟩) hbw).trans q0
                have p1 := (hb.cell (p := ⟨b, o + i * 2 + 1, none⟩) hbw).trans q1
                clear hb q0 q1 hbel c0 c1
                go_wp2_with fail
                go_roundg g3
                case measure => omega
                case rel => exact ⟨i + 1, by omega, by go_num, hbz⟩
        | succ g3 =>
          have c0 := (hbel.out.cell (p := ⟨bs, 0, none⟩) hB8.out.lt).trans (hB8.out.cell 0)
          have c1 := (hbel.out.cell (p := ⟨bs, 1, none⟩) hB8.out.lt).trans (hB8.out.cell 1)
          simp only [List.getElem?_toArray, List.getElem?_cons_zero, List.getElem?_cons_succ] at c0 c1
          obtain ⟨b, o, rfl, hbB⟩ := reads_head hq8.out (by omega) (by decide)
          obtain ⟨⟨pk, pv⟩, hx, q0, q1⟩ := prs_at (hq8.out.below hbel.out) (show i < nS by omega)
          have hx2 := Lib.hid (look_mem hs.out (List.mem_of_getElem? hx))
          have i0 : (0 : Int) ≤ (i : Int) := by omega
          have i1 : (i : Int) < (nS : Int) := by omega
          have i2 : i < 61 := by omega
          dsimp only at q0 q1 hx2
          have hbw : b < wr.heap.size := by have := hbel.out.size; omega
          clear hx
          by_cases u1 : ec = 0
          · subst u1
            by_cases u2 : pk < xk
            · have e2 := decide_eq_true u2
              have hke := Lib.hid (hkeep.out pk (by omega))
              go_wp2_with fail
              refine (getM pk wr (mapAt_on m8 hbel.out)).mono ?_
              rintro e wz ⟨hE, hb⟩
              rw [hke.out, hx2.out] at hE
              replace hE : e = .returned (.tuple #[.int .u64 pv, .bool true]) := hE
              subst hE
              have hbz := below_on hbel hb
              have p0 := (hb.cell (p := ⟨b, o + i * 2, none⟩) hbw).trans q0
              have p1 := (hb.cell (p := ⟨b, o + i * 2 + 1, none⟩) hbw).trans q1
              clear hb q0 q1 hbel c0 c1
              go_wp2_with fail
              go_roundg g3
              case measure => omega
              case rel => exact ⟨i + 1, by omega, by go_num, hbz⟩
            · have e2 := decide_eq_false u2
              by_cases u3 : H < pk
              · have e3 := decide_eq_true u3
                have hke := Lib.hid (hkeep.out pk (by omega))
                go_wp2_with fail
                refine (getM pk wr (mapAt_on m8 hbel.out)).mono ?_
                rintro e wz ⟨hE, hb⟩
                rw [hke.out, hx2.out] at hE
                replace hE : e = .returned (.tuple #[.int .u64 pv, .bool true]) := hE
                subst hE
                have hbz := below_on hbel hb
                have p0 := (hb.cell (p := ⟨b, o + i * 2, none⟩) hbw).trans q0
                have p1 := (hb.cell (p := ⟨b, o + i * 2 + 1, none⟩) hbw).trans q1
                clear hb q0 q1 hbel c0 c1
                go_wp2_with fail
                go_roundg g3
                case measure => omega
                case rel => exact ⟨i + 1, by omega, by go_num, hbz⟩
              · have e3 := decide_eq_false u3
                clear hx2 q1
                go_wp2_with fail
                go_roundg g3
                case measure => omega
                case rel => exact ⟨i + 1, by omega, by go_num, hbel⟩
          · have e1 : (ec == 0) = false := by simpa using u1
            have e1' : (ec != 0) = true := by simpa using u1
            have e1'' : (!(ec == 0)) = true := by simpa using u1
            have hke := Lib.hid (hkeep.out pk (by omega))
            go_wp2_with fail
            refine (getM pk wr (mapAt_on m8 hbel.out)).mono ?_
            rintro e wz ⟨hE, hb⟩
            rw [hke.out, hx2.out] at hE
            replace hE : e = .returned (.tuple #[.int .u64 pv, .bool true]) := hE
            subst hE
            have hbz := below_on hbel hb
            have p0 := (hb.cell (p := ⟨b, o + i * 2, none⟩) hbw).trans q0
            have p1 := (hb.cell (p := ⟨b, o + i * 2 + 1, none⟩) hbw).trans q1
            clear hb q0 q1 hbel c0 c1
            go_wp2_with fail
            go_roundg g3
            case measure => omega
            case rel => exact ⟨i + 1, by omega, by go_num, hbz⟩
theorem keeps_law (A : Option Addr) (n c : Nat) (l : List Pr) (d xk xh xv xb : Int) (w : World) (hI : IsPairs w A n c l) (hz : n * 16 ≤ 140737488351232) (w0 : (Lit.int .u8 d).wf = true) (w1 : (Lit.int .u64 xk).wf = true) (w2 : (Lit.int .u64 xh).wf = true) (w3 : (Lit.int .u64 xv).wf = true) (w4 : (Lit.int .u64 xb).wf = true) :
    Calls Try.prog 7 #[.slice A n c, .agg #[.int .u8 d, .int .u64 xk, .int .u64 xh, .int .u64 xv, .int .u64 xb]] w fun e w' => e = .returned (.bool true) ∧ Below w.heap.size w w' :=
  keeps_core A n c l d xk xh xv xb w hI.reads hz (fun p hp => (hI.wf p hp).1) (by
    have h2 : IntKind.u8.min = 0 := by decide
    unfold Lit.wf at w0
    simp only [Bool.and_eq_true, decide_eq_true_eq] at w0
    omega) w1 w2 w4
end Go.Proofs.Ytfghkmhabpagkaa
