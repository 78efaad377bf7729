/- The law OmapReturns, walked (printed by gen_lawret.py). -/
import Derived.Test.YtfghkmhabpagkaaODelK
import Derived.Test.YtfghkmhabpagkaaOEql
import Derived.Test.YtfghkmhabpagkaaKnown
import Derived.Test.YtfghkmhabpagkaaOpenS
namespace Go.Proofs.Ytfghkmhabpagkaa
open Go Go.RowKit
set_option linter.unusedVariables false

theorem box3 {W w : World} {b : Nat} {T : TypeId} {x y z : Int} (hB : Hid (Blk W b T #[.int .u64 x, .int .u64 y, .int .u64 z])) (hb : Below W.heap.size W w) : w.cell? ⟨b, 0, none⟩ = some (.int .u64 x) ∧ w.cell? ⟨b, 1, none⟩ = some (.int .u64 y) ∧ w.cell? ⟨b, 2, none⟩ = some (.int .u64 z) :=
  ⟨(hb.cell (p := ⟨b, 0, none⟩) hB.out.lt).trans (by simpa using hB.out.cell 0), (hb.cell (p := ⟨b, 1, none⟩) hB.out.lt).trans (by simpa using hB.out.cell 1), (hb.cell (p := ⟨b, 2, none⟩) hB.out.lt).trans (by simpa using hB.out.cell 2)⟩
theorem i64_sm {x : Int} (h0 : -9223372036854775808 ≤ x) (h1 : x ≤ 9223372036854775807) : IntKind.i64.wrap x = x := by
  unfold IntKind.wrap
  simp [IntKind.bits, IntKind.signed]
  omega
theorem inB_key (key k : Int) : inB key key k = decide (k = key) := by
  unfold inB
  by_cases h : k = key
  · subst h; simp
  · rw [decide_eq_false h]
    rw [Bool.eq_false_iff]
    intro h2
    simp at h2
    omega
theorem put_back {S : List Pr} {key : Int} {p : Pr} (hs : Srt Pr.key S) (h : look Pr.key S key = some p) : setP ⟨key, p.val⟩ (outR key key S) = S := by
  have h1 := set_spec ⟨key, p.val⟩ (outR key key S) (srt_out hs)
  refine srt_ext h1.1 hs fun k => ?_
  rw [h1.2 k]
  by_cases hk : key = k
  · subst hk
    rw [if_pos rfl, h, ← (look_some h).2]
  · rw [if_neg hk, look_out, inB_key, if_neg (by simpa using fun h => hk h.symm)]
theorem del_back {S : List Pr} {key x : Int} (hs : Srt Pr.key S) (h : look Pr.key S key = none) : outR key key (setP ⟨key, x⟩ S) = S := by
  have h1 := set_spec ⟨key, x⟩ S hs
  refine srt_ext (srt_out h1.1) hs fun k => ?_
  rw [look_out, inB_key]
  by_cases hk : key = k
  · subst hk
    rw [if_pos (by simp), h]
  · rw [if_neg (by simpa using fun h => hk h.symm), h1.2 k, if_neg hk]
theorem in_key {S : List Pr} {key : Int} {p : Pr} (hs : Srt Pr.key S) (h : look Pr.key S key = some p) : inR key key S = [p] := by
  have hp := (look_some h).2
  refine srt_ext (srt_in hs) (List.pairwise_singleton _ _) fun k => ?_
  rw [look_in, inB_key, look_cons, look_nil]
  by_cases hk : k = key
  · subst hk
    rw [if_pos (by simp), h, if_pos hp]
  · rw [if_neg (by simpa using hk), if_neg (by omega)]
theorem del_len {S : List Pr} {key : Int} {p : Pr} (hs : Srt Pr.key S) (h : look Pr.key S key = some p) : (outR key key S).length + 1 = S.length := by
  have := in_out_len key key S
  rw [in_key hs h] at this
  simp at this
  omega
theorem put_len {S : List Pr} {key x : Int} (hs : Srt Pr.key S) (h : look Pr.key S key = none) : (setP ⟨key, x⟩ S).length = S.length + 1 := by
  have h1 := set_spec ⟨key, x⟩ S hs
  have h2 := del_len (S := setP ⟨key, x⟩ S) (key := key) (p := ⟨key, x⟩) h1.1 (by rw [h1.2 key, if_pos rfl])
  rw [del_back hs h] at h2
  omega
theorem set_look {S : List Pr} {key x : Int} (hs : Srt Pr.key S) : look Pr.key (setP ⟨key, x⟩ S) key = some ⟨key, x⟩ := by rw [(set_spec ⟨key, x⟩ S hs).2 key, if_pos rfl]
theorem cas_yes {T : List Pr} {key y : Int} (h : look Pr.key T key = some ⟨key, y⟩) : casB T key y = true := by
  unfold casB
  rw [h]
  simp [valO]
theorem cas_no {T : List Pr} {key y x : Int} (h : look Pr.key T key = some ⟨key, y⟩) (hx : ¬ x = y) : casB T key x = false := by
  unfold casB
  rw [h]
  show (true && decide (y = x)) = false
  rw [decide_eq_false (fun h => hx h.symm)]
  rfl
theorem pif_yes {S : List Pr} {key x : Int} {p : Pr} (h : look Pr.key S key = some p) : pifL S key x = S := by unfold pifL; rw [h]; rfl
theorem pif_no {S : List Pr} {key x : Int} (h : look Pr.key S key = none) : pifL S key x = setP ⟨key, x⟩ S := by unfold pifL; rw [h]; rfl

set_option maxRecDepth 100000 in
set_option maxHeartbeats 16000000 in
theorem returns_core (A : Option Addr) (n c : Nat) (l : List Pr) (key x0 x1 x2 : Int) (w : World) (hr : Hid (Reads w w.heap.size 2 A n (prs l))) (hz : n * 16 ≤ 140737488351232) :
    Calls Try.prog 8 #[.slice A n c, .int .u64 key, .agg #[.int .u64 x0, .int .u64 x1, .int .u64 x2]] w fun e w' => e = .returned (.bool true) ∧ Below w.heap.size w w' := by
  have hll := Lib.hid (prs_n hr.out)
  obtain ⟨W, hW⟩ : ∃ W, w.alloc (.cells #[.int .u64 x0, .int .u64 x1, .int .u64 x2] 70) = W := ⟨_, rfl⟩
  have hb0 : Hid (Below w.heap.size w W) := by rw [← hW]; exact (Below.refl _ _).alloc (Nat.le_refl _) _
  have hBx : Hid (Blk W w.heap.size 70 #[.int .u64 x0, .int .u64 x1, .int .u64 x2]) := by rw [← hW]; exact Blk.new w _ _
  have hr0 : Hid (Reads W W.heap.size 2 A n (prs l)) := (hr.out.below hb0.out).more hb0.out.size
  have hmade := made_any l A n c W hr0 hz
  clear hr
  by_cases t1 : 60 < n
  · have d1 : (60 : Int) < (n : Int) := by omega
    have hmk : Calls Try.prog 11 #[.slice A n c] W fun e w' => ∃ ad, e = .returned (.pointer ad) ∧ Below W.heap.size W w' := hmade.mono fun e w' h => by
      obtain ⟨hb, ⟨_, h⟩ | ⟨_, g, v, h, _⟩⟩ := h
      · exact ⟨_, h, hb⟩
      · exact ⟨_, h, hb⟩
    clear hmade hr0
    go_enter Try.func8, Try.ntmps8
    go_wp2_with fail
    refine hmk.mono ?_
    rintro e w1 ⟨ad, rfl, hb⟩
    have hb1 := below_on hb0 hb
    clear hb hmk
    go_wp2_with fail
    refine (known_any _).mono ?_
    rintro e w2 ⟨rfl, hb⟩
    have hbe := below_on hb1 hb
    clear hb
    go_wp2_with fail
    go_ret
    exact ⟨rfl, hbe.out⟩
  · have d1 : ¬ (60 : Int) < (n : Int) := by omega
    have hf60 : (firsts l).length ≤ 60 := by
      have h1 := firsts_len l l.length
      rw [← firsts_all, hll.out] at h1
      omega
    have hS60 : (madeL l).length ≤ 60 := Nat.le_trans (madeL_len l) hf60
    go_enter Try.func8, Try.ntmps8
    go_wp2_with fail
    try rw [hW]
    refine hmade.mono ?_
    rintro e w1 ⟨hb, ⟨h60, _⟩ | ⟨_, g, v, rfl, ho⟩⟩
    · omega
    have m1 : Hid (MapAt W w1 g v (madeL l)) := ⟨ho, hb⟩
    obtain ⟨S, hS⟩ : ∃ S, madeL l = S := ⟨_, rfl⟩
    rw [hS] at m1 hS60
    have hs : Hid (Srt Pr.key S) := m1.out.o.srt
    clear hmade hb ho hr0 hf60 hS hW
    go_wp2_with fail
    refine (copyM w1 m1).mono ?_
    rintro e w2 ⟨g2, v2, rfl, ho, hb⟩
    have f2 := off_new m1.out ho
    have c2 : Hid (MapAt W w2 g2 v2 S) := mapAt_new m1.out.bel ho hb
    have m2 := mapAt_on m1 hb
    obtain ⟨b2x0, b2x1, b2x2⟩ := box3 hBx m2.out.bel
    clear m1 ho hb
    go_wp2_with fail
    refine (equalM w2 m2 c2).mono ?_
    rintro e w3 ⟨hE, hb⟩
    rw [show decide (S = S) = true from decide_eq_true rfl] at hE
    replace hE : e = .returned (.bool true) := hE
    subst hE
    have m3 := mapAt_on m2 hb
    have c3 := mapAt_on c2 hb
    have f3 := off_on f2 (Stays.of_below hb)
    obtain ⟨b4x0, b4x1, b4x2⟩ := box3 hBx m3.out.bel
    clear hb m2 c2 f2 b2x0 b2x1 b2x2
    go_wp2_with fail
    refine (equalM w3 c3 m3).mono ?_
    rintro e w5 ⟨hE, hb⟩
    rw [show decide (S = S) = true from decide_eq_true rfl] at hE
    replace hE : e = .returned (.bool true) := hE
    subst hE
    have m5 := mapAt_on m3 hb
    have c5 := mapAt_on c3 hb
    have f5 := off_on f3 (Stays.of_below hb)
    obtain ⟨b6x0, b6x1, b6x2⟩ := box3 hBx m5.out.bel
    clear hb m3 c3 f3 b4x0 b4x1 b4x2
    cases hlk0 : look Pr.key S key with
    | some p =>
      obtain ⟨pk, pv⟩ := p
      have hlk := Lib.hid hlk0
      clear hlk0
      go_wp2_with fail
      refine (getM key w5 m5).mono ?_
      rintro e w8 ⟨hE, hb⟩
      rw [hlk.out] at hE
      replace hE : e = .returned (.tuple #[.int .u64 pv, .bool true]) := hE
      subst hE
      have m8 := mapAt_on m5 hb
      have c8 := mapAt_on c5 hb
      have f8 := off_on f5 (Stays.of_below hb)
      obtain ⟨b9x0, b9x1, b9x2⟩ := box3 hBx m8.out.bel
      clear hb m5 c5 f5 b6x0 b6x1 b6x2
      go_wp2_with fail
      refine (delM key w8 m8 (by omega)).mono ?_
      rintro e w10 ⟨hE, v10, hm, hst⟩
      rw [hlk.out] at hE
      replace hE : e = .returned (.tuple #[.int .u64 pv, .bool true, .int .i64 0]) := hE
      subst hE
      have m10 := Lib.hid hm
      have c10 := mapAt_off c8 f8 hst hm.bel
      have f10 := off_on f8 hst
      obtain ⟨b11x0, b11x1, b11x2⟩ := box3 hBx m10.out.bel
      clear hst hm m8 c8 f8 b9x0 b9x1 b9x2
      go_wp2_with fail
      refine (getM key w10 m10).mono ?_
      rintro e w12 ⟨hE, hb⟩
      rw [show look Pr.key (outR key key S) key = none by rw [look_out, inB_key, if_pos (by simp)]] at hE
      replace hE : e = .returned (.tuple #[.int .u64 0, .bool false]) := hE
      subst hE
      have m12 := mapAt_on m10 hb
      have c12 := mapAt_on c10 hb
      have f12 := off_on f10 (Stays.of_below hb)
      obtain ⟨b13x0, b13x1, b13x2⟩ := box3 hBx m12.out.bel
      clear hb m10 c10 f10 b11x0 b11x1 b11x2
      go_wp2_with fail
      refine (equalM w12 m12 c12).mono ?_
      rintro e w14 ⟨hE, hb⟩
      rw [decide_eq_false (show ¬ outR key key S = S from fun h => by have := del_len hs.out hlk.out; rw [h] at this; omega)] at hE
      replace hE : e = .returned (.bool false) := hE
      subst hE
      have m14 := mapAt_on m12 hb
      have c14 := mapAt_on c12 hb
      have f14 := off_on f12 (Stays.of_below hb)
      obtain ⟨b15x0, b15x1, b15x2⟩ := box3 hBx m14.out.bel
      clear hb m12 c12 f12 b13x0 b13x1 b13x2
      obtain ⟨z, hz1⟩ : ∃ z, (outR key key S).length = z := ⟨_, rfl⟩
      obtain ⟨y, hy1⟩ : ∃ y, S.length = y := ⟨_, rfl⟩
      have hzy := del_len hs.out hlk.out
      rw [hz1, hy1] at hzy
      have hwr : IntKind.i64.wrap ((y : Int) - 1) = (z : Int) := by rw [i64_sm (by omega) (by omega)]; omega
      have hz1 := Lib.hid hz1
      have hy1 := Lib.hid hy1
      go_wp2_with fail
      refine (lenM w14 m14).mono ?_
      rintro e w16 ⟨hE, hb⟩
      rw [hz1.out] at hE
      replace hE : e = .returned (.int .i64 z) := hE
      subst hE
      have m16 := mapAt_on m14 hb
      have c16 := mapAt_on c14 hb
      have f16 := off_on f14 (Stays.of_below hb)
      obtain ⟨b17x0, b17x1, b17x2⟩ := box3 hBx m16.out.bel
      clear hb m14 c14 f14 b15x0 b15x1 b15x2
      go_wp2_with fail
      refine (lenM w16 c16).mono ?_
      rintro e w18 ⟨hE, hb⟩
      rw [hy1.out] at hE
      replace hE : e = .returned (.int .i64 y) := hE
      subst hE
      have m18 := mapAt_on m16 hb
      have c18 := mapAt_on c16 hb
      have f18 := off_on f16 (Stays.of_below hb)
      obtain ⟨b19x0, b19x1, b19x2⟩ := box3 hBx m18.out.bel
      clear hb m16 c16 f16 b17x0 b17x1 b17x2
      go_wp2_with fail
      refine (putM key pv w18 m18 (by have := hz1.out; omega)).mono ?_
      rintro e w20 ⟨hE, v20, hm, hst⟩
      rw [show look Pr.key (outR key key S) key = none by rw [look_out, inB_key, if_pos (by simp)]] at hE
      replace hE : e = .returned (.tuple #[.int .u64 0, .bool false, .int .i64 0]) := hE
      subst hE
      rw [show setP ⟨key, pv⟩ (outR key key S) = S from put_back (p := ⟨pk, pv⟩) hs.out hlk.out] at hm
      have m20 := Lib.hid hm
      have c20 := mapAt_off c18 f18 hst hm.bel
      have f20 := off_on f18 hst
      obtain ⟨b21x0, b21x1, b21x2⟩ := box3 hBx m20.out.bel
      clear hst hm m18 c18 f18 b19x0 b19x1 b19x2
      go_wp2_with fail
      refine (equalM w20 m20 c20).mono ?_
      rintro e w22 ⟨hE, hb⟩
      rw [show decide (S = S) = true from decide_eq_true rfl] at hE
      replace hE : e = .returned (.bool true) := hE
      subst hE
      have m22 := mapAt_on m20 hb
      have c22 := mapAt_on c20 hb
      have f22 := off_on f20 (Stays.of_below hb)
      obtain ⟨b23x0, b23x1, b23x2⟩ := box3 hBx m22.out.bel
      clear hb m20 c20 f20 b21x0 b21x1 b21x2
      go_wp2_with fail
      refine (pifM key x0 w22 m22 (by omega)).mono ?_
      rintro e w24 ⟨hE, v24, hm, hst⟩
      rw [hlk.out] at hE
      replace hE : e = .returned (.tuple #[.int .u64 pv, .bool true, .int .i64 0]) := hE
      subst hE
      rw [pif_yes hlk.out] at hm
      have m24 := Lib.hid hm
      have c24 := mapAt_off c22 f22 hst hm.bel
      have f24 := off_on f22 hst
      obtain ⟨b25x0, b25x1, b25x2⟩ := box3 hBx m24.out.bel
      clear hst hm m22 c22 f22 b23x0 b23x1 b23x2
      have hT : Hid (look Pr.key S key = some ⟨key, pv⟩) := by
        have h1 := hlk.out
        have h2 : pk = key := (look_some h1).2
        rw [h2] at h1
        exact h1
      have hT60 : S.length ≤ 61 := by omega
      have hTs : Hid (Srt Pr.key S) := hs
      by_cases hx : x1 = pv
      · subst hx
        go_wp2_with fail
        refine (getM key w24 m24).mono ?_
        rintro e w27 ⟨hE, hb⟩
        rw [hT.out] at hE
        replace hE : e = .returned (.tuple #[.int .u64 x1, .bool true]) := hE
        subst hE
        have m27 := mapAt_on m24 hb
        have c27 := mapAt_on c24 hb
        have f27 := off_on f24 (Stays.of_below hb)
        obtain ⟨b28x0, b28x1, b28x2⟩ := box3 hBx m27.out.bel
        clear hb m24 c24 f24 b25x0 b25x1 b25x2
        go_wp2_with fail
        refine (casM key x1 x2 w27 m27 (by omega)).mono ?_
        rintro e w29 ⟨hE, v29, hm, hst⟩
        rw [cas_yes hT.out, hT.out] at hE
        replace hE : e = .returned (.tuple #[.int .u64 x1, .bool true, .bool true, .int .i64 0]) := hE
        subst hE
        rw [cas_yes hT.out, if_pos rfl] at hm
        have m29 := Lib.hid hm
        have c29 := mapAt_off c27 f27 hst hm.bel
        have f29 := off_on f27 hst
        obtain ⟨b30x0, b30x1, b30x2⟩ := box3 hBx m29.out.bel
        clear hst hm m27 c27 f27 b28x0 b28x1 b28x2
        go_wp2_with fail
        refine (getM key w29 m29).mono ?_
        rintro e w31 ⟨hE, hb⟩
        rw [set_look hTs.out] at hE
        replace hE : e = .returned (.tuple #[.int .u64 x2, .bool true]) := hE
        subst hE
        have m31 := mapAt_on m29 hb
        have c31 := mapAt_on c29 hb
        have f31 := off_on f29 (Stays.of_below hb)
        obtain ⟨b32x0, b32x1, b32x2⟩ := box3 hBx m31.out.bel
        clear hb m29 c29 f29 b30x0 b30x1 b30x2
        go_wp2_with fail
        refine (known_any _).mono ?_
        rintro e wk ⟨rfl, hb⟩
        have hbe := below_on (below_on hb0 m31.out.bel) hb
        clear hb
        go_wp2_with fail
        go_ret
        exact ⟨rfl, hbe.out⟩
      · have hx2 : (x1 == pv) = false := by simpa using hx
        go_wp2_with fail
        refine (getM key w24 m24).mono ?_
        rintro e w27 ⟨hE, hb⟩
        rw [hT.out] at hE
        replace hE : e = .returned (.tuple #[.int .u64 pv, .bool true]) := hE
        subst hE
        have m27 := mapAt_on m24 hb
        have c27 := mapAt_on c24 hb
        have f27 := off_on f24 (Stays.of_below hb)
        obtain ⟨b28x0, b28x1, b28x2⟩ := box3 hBx m27.out.bel
        clear hb m24 c24 f24 b25x0 b25x1 b25x2
        go_wp2_with fail
        refine (casM key x1 x2 w27 m27 (by omega)).mono ?_
        rintro e w29 ⟨hE, v29, hm, hst⟩
        rw [cas_no hT.out hx, hT.out] at hE
        replace hE : e = .returned (.tuple #[.int .u64 pv, .bool true, .bool false, .int .i64 0]) := hE
        subst hE
        rw [cas_no hT.out hx, if_neg (by decide)] at hm
        have m29 := Lib.hid hm
        have c29 := mapAt_off c27 f27 hst hm.bel
        have f29 := off_on f27 hst
        obtain ⟨b30x0, b30x1, b30x2⟩ := box3 hBx m29.out.bel
        clear hst hm m27 c27 f27 b28x0 b28x1 b28x2
        go_wp2_with fail
        refine (getM key w29 m29).mono ?_
        rintro e w31 ⟨hE, hb⟩
        rw [hT.out] at hE
        replace hE : e = .returned (.tuple #[.int .u64 pv, .bool true]) := hE
        subst hE
        have m31 := mapAt_on m29 hb
        have c31 := mapAt_on c29 hb
        have f31 := off_on f29 (Stays.of_below hb)
        obtain ⟨b32x0, b32x1, b32x2⟩ := box3 hBx m31.out.bel
        clear hb m29 c29 f29 b30x0 b30x1 b30x2
        go_wp2_with fail
        refine (known_any _).mono ?_
        rintro e wk ⟨rfl, hb⟩
        have hbe := below_on (below_on hb0 m31.out.bel) hb
        clear hb
        go_wp2_with fail
        go_ret
        exact ⟨rfl, hbe.out⟩
    | none =>
      have hlk := Lib.hid hlk0
      clear hlk0
      go_wp2_with fail
      refine (getM key w5 m5).mono ?_
      rintro e w8 ⟨hE, hb⟩
      rw [hlk.out] at hE
      replace hE : e = .returned (.tuple #[.int .u64 0, .bool false]) := hE
      subst hE
      have m8 := mapAt_on m5 hb
      have c8 := mapAt_on c5 hb
      have f8 := off_on f5 (Stays.of_below hb)
      obtain ⟨b9x0, b9x1, b9x2⟩ := box3 hBx m8.out.bel
      clear hb m5 c5 f5 b6x0 b6x1 b6x2
      go_wp2_with fail
      refine (putM key x0 w8 m8 (by omega)).mono ?_
      rintro e w10 ⟨hE, v10, hm, hst⟩
      rw [hlk.out] at hE
      replace hE : e = .returned (.tuple #[.int .u64 0, .bool false, .int .i64 0]) := hE
      subst hE
      have m10 := Lib.hid hm
      have c10 := mapAt_off c8 f8 hst hm.bel
      have f10 := off_on f8 hst
      obtain ⟨b11x0, b11x1, b11x2⟩ := box3 hBx m10.out.bel
      clear hst hm m8 c8 f8 b9x0 b9x1 b9x2
      have hpl := put_len (x := x0) hs.out hlk.out
      have hplh := Lib.hid hpl
      go_wp2_with fail
      refine (equalM w10 m10 c10).mono ?_
      rintro e w12 ⟨hE, hb⟩
      rw [decide_eq_false (show ¬ setP ⟨key, x0⟩ S = S from fun h => by have := hplh.out; rw [h] at this; omega)] at hE
      replace hE : e = .returned (.bool false) := hE
      subst hE
      have m12 := mapAt_on m10 hb
      have c12 := mapAt_on c10 hb
      have f12 := off_on f10 (Stays.of_below hb)
      obtain ⟨b13x0, b13x1, b13x2⟩ := box3 hBx m12.out.bel
      clear hb m10 c10 f10 b11x0 b11x1 b11x2
      obtain ⟨z, hz1⟩ : ∃ z, (setP ⟨key, x0⟩ S).length = z := ⟨_, rfl⟩
      obtain ⟨y, hy1⟩ : ∃ y, S.length = y := ⟨_, rfl⟩
      rw [hz1, hy1] at hpl
      have hwr : IntKind.i64.wrap ((y : Int) + 1) = (z : Int) := by rw [i64_sm (by omega) (by omega)]; omega
      have hz1 := Lib.hid hz1
      have hy1 := Lib.hid hy1
      go_wp2_with fail
      refine (lenM w12 m12).mono ?_
      rintro e w14 ⟨hE, hb⟩
      rw [hz1.out] at hE
      replace hE : e = .returned (.int .i64 z) := hE
      subst hE
      have m14 := mapAt_on m12 hb
      have c14 := mapAt_on c12 hb
      have f14 := off_on f12 (Stays.of_below hb)
      obtain ⟨b15x0, b15x1, b15x2⟩ := box3 hBx m14.out.bel
      clear hb m12 c12 f12 b13x0 b13x1 b13x2
      go_wp2_with fail
      refine (lenM w14 c14).mono ?_
      rintro e w16 ⟨hE, hb⟩
      rw [hy1.out] at hE
      replace hE : e = .returned (.int .i64 y) := hE
      subst hE
      have m16 := mapAt_on m14 hb
      have c16 := mapAt_on c14 hb
      have f16 := off_on f14 (Stays.of_below hb)
      obtain ⟨b17x0, b17x1, b17x2⟩ := box3 hBx m16.out.bel
      clear hb m14 c14 f14 b15x0 b15x1 b15x2
      go_wp2_with fail
      refine (delM key w16 m16 (by have := hz1.out; omega)).mono ?_
      rintro e w18 ⟨hE, v18, hm, hst⟩
      rw [set_look hs.out] at hE
      replace hE : e = .returned (.tuple #[.int .u64 x0, .bool true, .int .i64 0]) := hE
      subst hE
      rw [del_back hs.out hlk.out] at hm
      have m18 := Lib.hid hm
      have c18 := mapAt_off c16 f16 hst hm.bel
      have f18 := off_on f16 hst
      obtain ⟨b19x0, b19x1, b19x2⟩ := box3 hBx m18.out.bel
      clear hst hm m16 c16 f16 b17x0 b17x1 b17x2
      go_wp2_with fail
      refine (equalM w18 m18 c18).mono ?_
      rintro e w20 ⟨hE, hb⟩
      rw [show decide (S = S) = true from decide_eq_true rfl] at hE
      replace hE : e = .returned (.bool true) := hE
      subst hE
      have m20 := mapAt_on m18 hb
      have c20 := mapAt_on c18 hb
      have f20 := off_on f18 (Stays.of_below hb)
      obtain ⟨b21x0, b21x1, b21x2⟩ := box3 hBx m20.out.bel
      clear hb m18 c18 f18 b19x0 b19x1 b19x2
      go_wp2_with fail
      refine (pifM key x0 w20 m20 (by omega)).mono ?_
      rintro e w22 ⟨hE, v22, hm, hst⟩
      rw [hlk.out] at hE
      replace hE : e = .returned (.tuple #[.int .u64 0, .bool false, .int .i64 0]) := hE
      subst hE
      rw [pif_no hlk.out] at hm
      have m22 := Lib.hid hm
      have c22 := mapAt_off c20 f20 hst hm.bel
      have f22 := off_on f20 hst
      obtain ⟨b23x0, b23x1, b23x2⟩ := box3 hBx m22.out.bel
      clear hst hm m20 c20 f20 b21x0 b21x1 b21x2
      obtain ⟨T, hTT⟩ : ∃ T, setP ⟨key, x0⟩ S = T := ⟨_, rfl⟩
      have hT : Hid (look Pr.key T key = some ⟨key, x0⟩) := by rw [← hTT]; exact set_look hs.out
      have hTs : Hid (Srt Pr.key T) := by rw [← hTT]; exact (set_spec ⟨key, x0⟩ S hs.out).1
      have hT60 : T.length ≤ 61 := by rw [← hTT]; have := hplh.out; omega
      rw [hTT] at m22
      by_cases hx : x1 = x0
      · subst hx
        go_wp2_with fail
        refine (getM key w22 m22).mono ?_
        rintro e w25 ⟨hE, hb⟩
        rw [hT.out] at hE
        replace hE : e = .returned (.tuple #[.int .u64 x1, .bool true]) := hE
        subst hE
        have m25 := mapAt_on m22 hb
        have c25 := mapAt_on c22 hb
        have f25 := off_on f22 (Stays.of_below hb)
        obtain ⟨b26x0, b26x1, b26x2⟩ := box3 hBx m25.out.bel
        clear hb m22 c22 f22 b23x0 b23x1 b23x2
        go_wp2_with fail
        refine (casM key x1 x2 w25 m25 (by omega)).mono ?_
        rintro e w27 ⟨hE, v27, hm, hst⟩
        rw [cas_yes hT.out, hT.out] at hE
        replace hE : e = .returned (.tuple #[.int .u64 x1, .bool true, .bool true, .int .i64 0]) := hE
        subst hE
        rw [cas_yes hT.out, if_pos rfl] at hm
        have m27 := Lib.hid hm
        have c27 := mapAt_off c25 f25 hst hm.bel
        have f27 := off_on f25 hst
        obtain ⟨b28x0, b28x1, b28x2⟩ := box3 hBx m27.out.bel
        clear hst hm m25 c25 f25 b26x0 b26x1 b26x2
        go_wp2_with fail
        refine (getM key w27 m27).mono ?_
        rintro e w29 ⟨hE, hb⟩
        rw [set_look hTs.out] at hE
        replace hE : e = .returned (.tuple #[.int .u64 x2, .bool true]) := hE
        subst hE
        have m29 := mapAt_on m27 hb
        have c29 := mapAt_on c27 hb
        have f29 := off_on f27 (Stays.of_below hb)
        obtain ⟨b30x0, b30x1, b30x2⟩ := box3 hBx m29.out.bel
        clear hb m27 c27 f27 b28x0 b28x1 b28x2
        go_wp2_with fail
        refine (known_any _).mono ?_
        rintro e wk ⟨rfl, hb⟩
        have hbe := below_on (below_on hb0 m29.out.bel) hb
        clear hb
        go_wp2_with fail
        go_ret
        exact ⟨rfl, hbe.out⟩
      · have hx2 : (x1 == x0) = false := by simpa using hx
        go_wp2_with fail
        refine (getM key w22 m22).mono ?_
        rintro e w25 ⟨hE, hb⟩
        rw [hT.out] at hE
        replace hE : e = .returned (.tuple #[.int .u64 x0, .bool true]) := hE
        subst hE
        have m25 := mapAt_on m22 hb
        have c25 := mapAt_on c22 hb
        have f25 := off_on f22 (Stays.of_below hb)
        obtain ⟨b26x0, b26x1, b26x2⟩ := box3 hBx m25.out.bel
        clear hb m22 c22 f22 b23x0 b23x1 b23x2
        go_wp2_with fail
        refine (casM key x1 x2 w25 m25 (by omega)).mono ?_
        rintro e w27 ⟨hE, v27, hm, hst⟩
        rw [cas_no hT.out hx, hT.out] at hE
        replace hE : e = .returned (.tuple #[.int .u64 x0, .bool true, .bool false, .int .i64 0]) := hE
        subst hE
        rw [cas_no hT.out hx, if_neg (by decide)] at hm
        have m27 := Lib.hid hm
        have c27 := mapAt_off c25 f25 hst hm.bel
        have f27 := off_on f25 hst
        obtain ⟨b28x0, b28x1, b28x2⟩ := box3 hBx m27.out.bel
        clear hst hm m25 c25 f25 b26x0 b26x1 b26x2
        go_wp2_with fail
        refine (getM key w27 m27).mono ?_
        rintro e w29 ⟨hE, hb⟩
        rw [hT.out] at hE
        replace hE : e = .returned (.tuple #[.int .u64 x0, .bool true]) := hE
        subst hE
        have m29 := mapAt_on m27 hb
        have c29 := mapAt_on c27 hb
        have f29 := off_on f27 (Stays.of_below hb)
        obtain ⟨b30x0, b30x1, b30x2⟩ := box3 hBx m29.out.bel
        clear hb m27 c27 f27 b28x0 b28x1 b28x2
        go_wp2_with fail
        refine (known_any _).mono ?_
        rintro e wk ⟨rfl, hb⟩
        have hbe := below_on (below_on hb0 m29.out.bel) hb
        clear hb
        go_wp2_with fail
        go_ret
        exact ⟨rfl, hbe.out⟩
theorem returns_law (A : Option Addr) (n c : Nat) (l : List Pr) (key x0 x1 x2 : Int) (w : World) (hI : IsPairs w A n c l) (hz : n * 16 ≤ 140737488351232) (wk : (Lit.int .u64 key).wf = true) (w0 : (Lit.int .u64 x0).wf = true) (w1 : (Lit.int .u64 x1).wf = true) (w2 : (Lit.int .u64 x2).wf = true) :
    Calls Try.prog 8 #[.slice A n c, .int .u64 key, .agg #[.int .u64 x0, .int .u64 x1, .int .u64 x2]] w fun e w' => e = .returned (.bool true) ∧ Below w.heap.size w w' :=
  returns_core A n c l key x0 x1 x2 w hI.reads hz
end Go.Proofs.Ytfghkmhabpagkaa
