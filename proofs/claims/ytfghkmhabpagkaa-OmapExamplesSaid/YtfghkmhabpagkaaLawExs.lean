/- The law OmapExamples, walked (printed by gen_lawexs.py). -/
import Derived.Test.YtfghkmhabpagkaaONext
import Derived.Test.YtfghkmhabpagkaaONil
import Derived.Test.YtfghkmhabpagkaaODelK
import Derived.Test.YtfghkmhabpagkaaOPut
import Derived.Test.YtfghkmhabpagkaaMade
import Derived.Test.YtfghkmhabpagkaaSame
namespace Go.Proofs.Ytfghkmhabpagkaa
open Go Go.RowKit
set_option linter.unusedVariables false

set_option maxRecDepth 100000 in
set_option maxHeartbeats 16000000 in
theorem exs_core (w : World) : Calls Try.prog 10 #[] w fun e w' => e = .returned (.bool true) ∧ Below w.heap.size w w' := by
  obtain ⟨W, hW⟩ : ∃ W, w.alloc (.cells #[.int .u64 3, .int .u64 30, .int .u64 1, .int .u64 10] 38) = W := ⟨_, rfl⟩
  have hb0 : Hid (Below w.heap.size w W) := by rw [← hW]; exact (Below.refl _ _).alloc (Nat.le_refl _) _
  have hr0 : Hid (Reads W W.heap.size 2 (some ⟨w.heap.size, 0, none⟩) 2 (prs [⟨3, 30⟩, ⟨1, 10⟩])) := by rw [← hW]; exact reads_at w 38 (prs [⟨3, 30⟩, ⟨1, 10⟩]) 2 _ rfl rfl
  go_enter Try.func10, Try.ntmps10
  go_wp2_with fail
  try rw [hW]
  clear hW
  refine (newO_any [⟨3, 30⟩, ⟨1, 10⟩] (some ⟨w.heap.size, 0, none⟩) 2 2 W hr0 (by omega)).mono ?_
  rintro e w1 ⟨hb, ⟨_, g, v, rfl, ho⟩ | ⟨hn, _⟩⟩
  case inr => exact absurd (fun j p hp hj => by
    have hj2 : j = 0 ∨ j = 1 := by have := hj; simp at this; omega
    rcases hj2 with rfl | rfl
    · rfl
    · obtain rfl := Option.some.inj hp; rfl) hn
  have m1 : Hid (MapAt W w1 g v [⟨1, 10⟩, ⟨3, 30⟩]) := ⟨ho, hb⟩
  clear hb ho hr0
  obtain ⟨w2, hw2⟩ : ∃ w2, w1.alloc (.cells #[.int .u64 1, .int .u64 1, .int .u64 1, .int .u64 2] 38) = w2 := ⟨_, rfl⟩
  have hb2 : Below w1.heap.size w1 w2 := by rw [← hw2]; exact (Below.refl _ _).alloc (Nat.le_refl _) _
  have hr2 : Hid (Reads w2 w2.heap.size 2 (some ⟨w1.heap.size, 0, none⟩) 2 (prs [⟨1, 1⟩, ⟨1, 2⟩])) := by rw [← hw2]; exact reads_at w1 38 (prs [⟨1, 1⟩, ⟨1, 2⟩]) 2 _ rfl rfl
  have m2 := mapAt_on m1 hb2
  go_wp2_with fail
  try rw [hw2]
  clear hw2 hb2 m1
  refine (newO_any [⟨1, 1⟩, ⟨1, 2⟩] (some ⟨w1.heap.size, 0, none⟩) 2 2 w2 hr2 (by omega)).mono ?_
  rintro e w3 ⟨hb, ⟨hn, _⟩ | ⟨_, rfl⟩⟩
  · have h1 := hn 1 ⟨1, 2⟩ rfl (by decide)
    cases h1
  have m3 := mapAt_on m2 hb
  clear m2 hr2 hb
  go_wp2_with fail
  refine (pairsM w3 m3).mono ?_
  rintro e w4 ⟨PA4, PC4, rfl, hown, hb⟩
  have m4 := mapAt_on m3 hb
  have hq : Hid (Reads w4 w4.heap.size 2 PA4 2 (prs [⟨1, 10⟩, ⟨3, 30⟩])) := Reads.of_own hown
  clear hown hb m3
  obtain ⟨w5, hw⟩ : ∃ w5, w4.alloc (.cells #[.int .u64 1, .int .u64 10, .int .u64 3, .int .u64 30] 38) = w5 := ⟨_, rfl⟩
  have hb : Below w4.heap.size w4 w5 := by rw [← hw]; exact (Below.refl _ _).alloc (Nat.le_refl _) _
  have hr : Hid (Reads w5 w5.heap.size 2 (some ⟨w4.heap.size, 0, none⟩) 2 (prs [⟨1, 10⟩, ⟨3, 30⟩])) := by rw [← hw]; exact reads_at w4 38 (prs [⟨1, 10⟩, ⟨3, 30⟩]) 2 _ rfl rfl
  have hq2 := reads_on hq hb
  have m5 := mapAt_on m4 hb
  go_wp2_with fail
  try rw [hw]
  clear hw hb hq m4
  refine (sameP [⟨1, 10⟩, ⟨3, 30⟩] PA4 (some ⟨w4.heap.size, 0, none⟩) 2 2 PC4 2 w5 hq2 hr (by omega)).mono ?_
  rintro e w6 ⟨rfl, hb⟩
  have m6 := mapAt_on m5 hb
  clear hb hq2 hr m5
  go_wp2_with fail
  refine (putM 2 20 w6 m6 (by decide)).mono ?_
  rintro e w7 ⟨hE, v7, hm, hst⟩
  replace hE : e = .returned (.tuple #[.int .u64 0, .bool false, .int .i64 0]) := hE
  subst hE
  have m7 : Hid (MapAt W w7 g v7 [⟨1, 10⟩, ⟨2, 20⟩, ⟨3, 30⟩]) := hm
  clear m6 hm hst
  go_wp2_with fail
  refine (putM 2 21 w7 m7 (by decide)).mono ?_
  rintro e w8 ⟨hE, v8, hm, hst⟩
  replace hE : e = .returned (.tuple #[.int .u64 20, .bool true, .int .i64 0]) := hE
  subst hE
  have m8 : Hid (MapAt W w8 g v8 [⟨1, 10⟩, ⟨2, 21⟩, ⟨3, 30⟩]) := hm
  clear m7 hm hst
  go_wp2_with fail
  refine (pifM 2 22 w8 m8 (by decide)).mono ?_
  rintro e w9 ⟨hE, v9, hm, hst⟩
  replace hE : e = .returned (.tuple #[.int .u64 21, .bool true, .int .i64 0]) := hE
  subst hE
  have m9 : Hid (MapAt W w9 g v9 [⟨1, 10⟩, ⟨2, 21⟩, ⟨3, 30⟩]) := hm
  clear m8 hm hst
  go_wp2_with fail
  refine (getM 2 w9 m9).mono ?_
  rintro e w10 ⟨hE, hb⟩
  replace hE : e = .returned (.tuple #[.int .u64 21, .bool true]) := hE
  subst hE
  have m10 := mapAt_on m9 hb
  clear m9 hb
  go_wp2_with fail
  refine (casM 2 20 9 w10 m10 (by decide)).mono ?_
  rintro e w11 ⟨hE, v11, hm, hst⟩
  replace hE : e = .returned (.tuple #[.int .u64 21, .bool true, .bool false, .int .i64 0]) := hE
  subst hE
  have m11 : Hid (MapAt W w11 g v11 [⟨1, 10⟩, ⟨2, 21⟩, ⟨3, 30⟩]) := hm
  clear m10 hm hst
  go_wp2_with fail
  refine (casM 2 21 9 w11 m11 (by decide)).mono ?_
  rintro e w12 ⟨hE, v12, hm, hst⟩
  replace hE : e = .returned (.tuple #[.int .u64 21, .bool true, .bool true, .int .i64 0]) := hE
  subst hE
  have m12 : Hid (MapAt W w12 g v12 [⟨1, 10⟩, ⟨2, 9⟩, ⟨3, 30⟩]) := hm
  clear m11 hm hst
  go_wp2_with fail
  refine (casM 5 0 1 w12 m12 (by decide)).mono ?_
  rintro e w13 ⟨hE, v13, hm, hst⟩
  replace hE : e = .returned (.tuple #[.int .u64 0, .bool false, .bool false, .int .i64 0]) := hE
  subst hE
  have m13 : Hid (MapAt W w13 g v13 [⟨1, 10⟩, ⟨2, 9⟩, ⟨3, 30⟩]) := hm
  clear m12 hm hst
  go_wp2_with fail
  refine (move_over 3 3 18446744073709551615 w13 m13 (by decide) (by decide) (by decide) (by decide)).mono ?_
  rintro e w14 ⟨hE, hb⟩
  replace hE : e = .returned (.tuple #[.int .i64 0, .int .i64 12]) := hE
  subst hE
  have m14 := mapAt_on m13 hb
  clear m13 hb
  go_wp2_with fail
  refine (move_zero 3 3 w14 m14 (by decide)).mono ?_
  rintro e w15 ⟨hE, hb⟩
  replace hE : e = .returned (.tuple #[.int .i64 0, .int .i64 13]) := hE
  subst hE
  have m15 := mapAt_on m14 hb
  clear m14 hb
  go_wp2_with fail
  refine (move_bad g 4 3 1 w15 (by decide)).mono ?_
  rintro e w16 ⟨hE, hb⟩
  replace hE : e = .returned (.tuple #[.int .i64 0, .int .i64 13]) := hE
  subst hE
  have m16 := mapAt_on m15 hb
  clear m15 hb
  go_wp2_with fail
  refine (moveM 1 2 1 w16 m16 (by decide) (by decide) (by decide) (by decide) (by decide) (by decide) (by decide)).mono ?_
  rintro e w17 ⟨hE, v17, hm, hst⟩
  replace hE : e = .returned (.tuple #[.int .i64 2, .int .i64 0]) := hE
  subst hE
  have m17 : Hid (MapAt W w17 g v17 [⟨2, 10⟩, ⟨3, 9⟩]) := hm
  clear m16 hm hst
  go_wp2_with fail
  refine (pairsM w17 m17).mono ?_
  rintro e w18 ⟨PA18, PC18, rfl, hown, hb⟩
  have m18 := mapAt_on m17 hb
  have hq : Hid (Reads w18 w18.heap.size 2 PA18 2 (prs [⟨2, 10⟩, ⟨3, 9⟩])) := Reads.of_own hown
  clear hown hb m17
  obtain ⟨w19, hw⟩ : ∃ w19, w18.alloc (.cells #[.int .u64 2, .int .u64 10, .int .u64 3, .int .u64 9] 38) = w19 := ⟨_, rfl⟩
  have hb : Below w18.heap.size w18 w19 := by rw [← hw]; exact (Below.refl _ _).alloc (Nat.le_refl _) _
  have hr : Hid (Reads w19 w19.heap.size 2 (some ⟨w18.heap.size, 0, none⟩) 2 (prs [⟨2, 10⟩, ⟨3, 9⟩])) := by rw [← hw]; exact reads_at w18 38 (prs [⟨2, 10⟩, ⟨3, 9⟩]) 2 _ rfl rfl
  have hq2 := reads_on hq hb
  have m19 := mapAt_on m18 hb
  go_wp2_with fail
  try rw [hw]
  clear hw hb hq m18
  refine (sameP [⟨2, 10⟩, ⟨3, 9⟩] PA18 (some ⟨w18.heap.size, 0, none⟩) 2 2 PC18 2 w19 hq2 hr (by omega)).mono ?_
  rintro e w20 ⟨rfl, hb⟩
  have m20 := mapAt_on m19 hb
  clear hb hq2 hr m19
  go_wp2_with fail
  refine (nextM 3 8 w20 m20 (by decide)).mono ?_
  rintro e w21 ⟨hE, hb⟩
  replace hE : e = .returned (.tuple #[.agg #[.int .u64 3, .int .u64 9], .bool true, .int .i64 0]) := hE
  subst hE
  have m21 := mapAt_on m20 hb
  clear m20 hb
  obtain ⟨w22, hwp⟩ : ∃ w22, w21.alloc (.cells #[.int .u64 3, .int .u64 9] 38) = w22 := ⟨_, rfl⟩
  have hb : Below w21.heap.size w21 w22 := by rw [← hwp]; exact (Below.refl _ _).alloc (Nat.le_refl _) _
  have hBp : Hid (Blk w22 w21.heap.size 38 #[.int .u64 3, .int .u64 9]) := by rw [← hwp]; exact Blk.new w21 _ _
  have m22 := mapAt_on m21 hb
  have hmo : Hid (Aside w22 g _ w21.heap.size) := aside_new m21.out (Nat.le_refl _) hBp.out.lt
  go_wp2_with fail
  try rw [hwp]
  clear hwp hb m21
  refine (nextM 4 8 w22 m22 (by decide)).mono ?_
  rintro e w23 ⟨hE, hb⟩
  replace hE : e = .returned (.tuple #[.agg #[.int .u64 0, .int .u64 0], .bool false, .int .i64 0]) := hE
  subst hE
  have m23 := mapAt_on m22 hb
  have hBp23 := Lib.hid (hBp.out.below hb hBp.out.lt)
  have hmo23 : Hid (Aside w23 g _ _) := hmo.out.on (Stays.of_below hb)
  clear m22 hb hBp hmo
  have hBp := hBp23
  have hmo := hmo23
  clear hBp23 hmo23
  go_wp2_with fail
  refine (delRM 0 2 w23 m23 (by decide)).mono ?_
  rintro e w24 ⟨hE, v24, hm, hst⟩
  replace hE : e = .returned (.tuple #[.int .i64 1, .int .i64 0]) := hE
  subst hE
  have m24 : Hid (MapAt W w24 g v24 [⟨3, 9⟩]) := hm
  have hBp2 : Hid (Blk w24 _ 38 #[.int .u64 3, .int .u64 9]) := (hst.1.block _ hBp.out.lt hmo.out.2.1 hmo.out.2.2).trans hBp.out
  have r0 := hBp2.out.cell 0
  have r1 := hBp2.out.cell 1
  simp only [List.getElem?_toArray, List.getElem?_cons_zero, List.getElem?_cons_succ] at r0 r1
  clear m23 hm hst hBp hmo hBp2
  have heq : ∀ w, (Op.equalIn 10000 38 (.agg #[.int .u64 3, .int .u64 9]) (.agg #[.int .u64 3, .int .u64 9])).run Try.prog w = .ok true w := fun w => by rw [eqP]; simp
  go_wp2_with fail
  refine (lenM w24 m24).mono ?_
  rintro e w25 ⟨hE, hb⟩
  replace hE : e = .returned (.int .i64 1) := hE
  subst hE
  have m25 := mapAt_on m24 hb
  clear m24 hb
  clear r0 r1 heq
  go_wp2_with fail
  refine (put_nil 1 1 w25).mono ?_
  rintro e w26 ⟨hE, hb⟩
  replace hE : e = .returned (.tuple #[.int .u64 0, .bool false, .int .i64 1]) := hE
  subst hE
  have m26 := mapAt_on m25 hb
  clear m25 hb
  go_wp2_with fail
  refine (move_nil 2 0 0 w26).mono ?_
  rintro e w27 ⟨hE, hb⟩
  replace hE : e = .returned (.tuple #[.int .i64 0, .int .i64 1]) := hE
  subst hE
  have m27 := mapAt_on m26 hb
  clear m26 hb
  go_wp2_with fail
  refine (range_nil 0 0 w27).mono ?_
  rintro e w28 ⟨hE, hb⟩
  replace hE : e = .returned (.tuple #[.slice none 0 0, .int .i64 1]) := hE
  subst hE
  have m28 := mapAt_on m27 hb
  clear m27 hb
  go_wp2_with fail
  refine (get_nil 1 w28).mono ?_
  rintro e w29 ⟨hE, hb⟩
  replace hE : e = .returned (.tuple #[.int .u64 0, .bool false]) := hE
  subst hE
  have m29 := mapAt_on m28 hb
  clear m28 hb
  go_wp2_with fail
  refine (len_nil w29).mono ?_
  rintro e w30 ⟨hE, hb⟩
  replace hE : e = .returned (.int .i64 0) := hE
  subst hE
  have m30 := mapAt_on m29 hb
  clear m29 hb
  go_wp2_with fail
  refine (pairs_nil w30).mono ?_
  rintro e w31 ⟨hE, hb⟩
  replace hE : e = .returned (.slice none 0 0) := hE
  subst hE
  have m31 := mapAt_on m30 hb
  clear m30 hb
  go_wp2_with fail
  refine (copy_nil w31).mono ?_
  rintro e w32 ⟨hE, hb⟩
  replace hE : e = .returned (.pointer none) := hE
  subst hE
  have m32 := mapAt_on m31 hb
  clear m31 hb
  go_wp2_with fail
  refine (eq_nil w32).mono ?_
  rintro e w33 ⟨hE, hb⟩
  replace hE : e = .returned (.bool true) := hE
  subst hE
  have m33 := mapAt_on m32 hb
  clear m32 hb
  go_wp2_with fail
  refine (eq_nil1 g w33).mono ?_
  rintro e w34 ⟨hE, hb⟩
  replace hE : e = .returned (.bool false) := hE
  subst hE
  have m34 := mapAt_on m33 hb
  clear m33 hb
  go_wp2_with fail
  refine (eq_nil2 g w34).mono ?_
  rintro e w35 ⟨hE, hb⟩
  replace hE : e = .returned (.bool false) := hE
  subst hE
  have m35 := mapAt_on m34 hb
  clear m34 hb
  have hbe := below_on hb0 m35.out.bel
  go_wp2_with fail
  go_ret
  exact ⟨rfl, hbe.out⟩
end Go.Proofs.Ytfghkmhabpagkaa
