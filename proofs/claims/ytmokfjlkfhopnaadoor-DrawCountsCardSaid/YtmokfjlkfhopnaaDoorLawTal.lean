/- The laws DrawTallies and DrawCounts, walked. -/
import Derived.Test.YtmokfjlkfhopnaaDoorKnown
import Derived.Test.YtmokfjlkfhopnaaDoorOpen
namespace Go.Proofs.YtmokfjlkfhopnaaDoor
open Go Go.RowKit Go.ChangeShapes
set_option linter.unusedVariables false

theorem tallies_law (a0 : Option Addr) (len0 cap0 : Nat) (l : List Int) (w : World) (hT : Hid (Tab w)) (w0 : IsInts w a0 len0 cap0 l) :
    Calls Tryd.prog 5 #[.slice a0 len0 cap0] w fun e w' => e = .returned (.bool true) ∧ Below w.heap.size w w' := by
  have hr : Hid (Reads w w.heap.size 1 a0 len0 (ints l)) := w0.reads
  have hm : len0 ≤ 9223372036854775807 := by have h1 := w0.le; have h2 := w0.cap; unfold maxLen at h2; omega
  clear w0
  by_cases hbig : 2000 < len0
  · go_enter Tryd.func5, Tryd.ntmps5
    go_wp2_with fail
    refine (known_any _ hT).mono ?_
    rintro e w1 ⟨rfl, hb⟩
    have hb' := Lib.hid hb
    clear hb
    go_wp2_with fail
    go_ret
    exact ⟨rfl, hb'.out⟩
  · have heq := eq6_same
    cases ho : okH l with
    | true =>
      obtain ⟨x0, x1, x2, x3, x4, x5, hV⟩ : ∃ x0 x1 x2 x3 x4 x5 : Int, talV l = #[.int .i64 x0, .int .i64 x1, .int .i64 x2, .int .i64 x3, .int .i64 x4, .int .i64 x5] := ⟨_, _, _, _, _, _, rfl⟩
      have ho' := Lib.hid ho
      have HV := Lib.hid hV
      clear ho hV
      go_enter Tryd.func5, Tryd.ntmps5
      go_wp2_with fail
      refine (tally_ok l _ _ _ _ _ _ HV.out ho'.out _ _ _ _ hr (by omega)).mono ?_
      rintro e w1 ⟨rfl, hb⟩
      have hb1 := Lib.hid hb
      clear hb
      go_wp2_with fail
      refine (reftally_ok l _ _ _ _ _ _ HV.out ho'.out _ _ _ _ ?_ (by omega)).mono ?_
      · exact ((hr.out.below hb1.out).alloc hb1.out.size _).more (by have := hb1.out.size; simp; omega)
      rintro e w2 ⟨rfl, hb⟩
      have hb2 := Lib.hid hb
      have hz : w1.heap.size < w2.heap.size := by have := hb2.out.size; simp at this; omega
      have hB := (Blk.new w1 25 _).below hb2.out (by simp)
      have c0 := hB.cell 0
      have c1 := hB.cell 1
      have c2 := hB.cell 2
      have c3 := hB.cell 3
      have c4 := hB.cell 4
      have c5 := hB.cell 5
      simp at c0 c1 c2 c3 c4 c5
      clear hb hB
      go_wp2_with fail
      go_ret
      have h1 := ((hb1.out.alloc hb1.out.size _).trans (hb2.out.mono (by have := hb1.out.size; simp; omega)))
      exact ⟨rfl, h1.alloc h1.size _⟩
    | false =>
      have ho' := Lib.hid ho
      clear ho
      go_enter Tryd.func5, Tryd.ntmps5
      go_wp2_with fail
      refine (tally_no l ho'.out _ _ _ _ hr (by omega)).mono ?_
      rintro e w1 ⟨rfl, hb⟩
      have hb1 := Lib.hid hb
      clear hb
      go_wp2_with fail
      refine (reftally_no l ho'.out _ _ _ _ ?_ (by omega)).mono ?_
      · exact ((hr.out.below hb1.out).alloc hb1.out.size _).more (by have := hb1.out.size; simp; omega)
      rintro e w2 ⟨rfl, hb⟩
      have hb2 := Lib.hid hb
      have hz : w1.heap.size < w2.heap.size := by have := hb2.out.size; simp at this; omega
      have hB := (Blk.new w1 25 _).below hb2.out (by simp)
      have c0 := hB.cell 0
      have c1 := hB.cell 1
      have c2 := hB.cell 2
      have c3 := hB.cell 3
      have c4 := hB.cell 4
      have c5 := hB.cell 5
      simp at c0 c1 c2 c3 c4 c5
      clear hb hB
      go_wp2_with fail
      go_ret
      have h1 := ((hb1.out.alloc hb1.out.size _).trans (hb2.out.mono (by have := hb1.out.size; simp; omega)))
      exact ⟨rfl, h1.alloc h1.size _⟩
end Go.Proofs.YtmokfjlkfhopnaaDoor
