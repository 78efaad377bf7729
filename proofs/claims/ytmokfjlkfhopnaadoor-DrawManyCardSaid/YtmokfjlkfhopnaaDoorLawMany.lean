/- The law DrawMany, walked. -/
import Derived.Test.YtmokfjlkfhopnaaDoorKnown
namespace Go.Proofs.YtmokfjlkfhopnaaDoor
open Go Go.RowKit Go.ChangeShapes
set_option linter.unusedVariables false

/-- Two nil lists are the same. -/
theorem same_nil (w : World) :
    Calls Tryd.prog 19 #[.slice none 0 0, .slice none 0 0] w fun e w' => e = .returned (.bool true) ∧ Below w.heap.size w w' :=
  same_eq [] none none 0 0 0 0 w Reads.none_ Reads.none_ (by omega)

theorem many_law (a0 a1 : Int) (w : World) (hT : Hid (Tab w)) (w0 : (Lit.int .u64 a0).wf = true) (w1 : (Lit.int .i64 a1).wf = true) :
    Calls Tryd.prog 7 #[.int .u64 a0, .int .i64 a1] w fun e w' => e = .returned (.bool true) ∧ Below w.heap.size w w' := by
  obtain ⟨s, rfl, hs⟩ := u64_of_wf w0
  clear w0 w1
  by_cases hneg : a1 < 0
  · go_enter Tryd.func7, Tryd.ntmps7
    go_wp2_with fail
    refine (heights_neg s a1 _ hneg).mono ?_
    rintro e w' ⟨rfl, rfl⟩
    go_wp2_with fail
    refine (refheights_neg s a1 _ hneg).mono ?_
    rintro e w' ⟨rfl, rfl⟩
    go_wp2_with fail
    refine (same_nil _).mono ?_
    rintro e w1 ⟨rfl, hb⟩
    have hb1 := Lib.hid hb
    clear hb
    go_wp2_with fail
    go_loopw [9] (fun i wr => i = .int .i64 0 ∧ wr = w1) (fun _ _ => 0)
    case atStart => exact ⟨rfl, rfl⟩
    case round =>
      obtain ⟨rfl, rfl⟩ := hrel
      go_wp2_with fail
      refine (heights_neg s a1 _ hneg).mono ?_
      rintro e w' ⟨rfl, rfl⟩
      go_wp2_with fail
      refine (same_nil _).mono ?_
      rintro e w2 ⟨rfl, hb⟩
      have hb2 := Lib.hid hb
      clear hb
      go_wp2_with fail
      go_ret
      exact ⟨rfl, hb1.out.trans (hb2.out.mono hb1.out.size)⟩
  · by_cases hbig : 1024 < a1
    · go_enter Tryd.func7, Tryd.ntmps7
      go_wp2_with fail
      refine (heights_big s a1 _ hbig).mono ?_
      rintro e w' ⟨rfl, rfl⟩
      go_wp2_with fail
      refine (refheights_big s a1 _ hbig).mono ?_
      rintro e w' ⟨rfl, rfl⟩
      go_wp2_with fail
      refine (same_nil _).mono ?_
      rintro e w1 ⟨rfl, hb⟩
      have hb1 := Lib.hid hb
      clear hb
      go_wp2_with fail
      go_loopw [9] (fun i wr => i = .int .i64 0 ∧ wr = w1) (fun _ _ => 0)
      case atStart => exact ⟨rfl, rfl⟩
      case round =>
        obtain ⟨rfl, rfl⟩ := hrel
        go_wp2_with fail
        refine (heights_big s a1 _ hbig).mono ?_
        rintro e w' ⟨rfl, rfl⟩
        go_wp2_with fail
        refine (same_nil _).mono ?_
        rintro e w2 ⟨rfl, hb⟩
        have hb2 := Lib.hid hb
        clear hb
        go_wp2_with fail
        go_ret
        exact ⟨rfl, hb1.out.trans (hb2.out.mono hb1.out.size)⟩
    · obtain ⟨n, rfl⟩ := Int.eq_ofNat_of_zero_le (by omega : 0 ≤ a1)
      have hn : n ≤ 1024 := by omega
      clear hneg hbig
      go_enter Tryd.func7, Tryd.ntmps7
      go_wp2_with fail
      refine (heights_ok s n hs _ hn hT).mono ?_
      rintro e w1 ⟨A, c, rfl, hown, hb⟩
      have ho1 := Lib.hid hown
      have hb1 := Lib.hid hb
      clear hb hown
      go_wp2_with fail
      refine (refheights_ok s n hs _ hn).mono ?_
      rintro e w2 ⟨A', c', rfl, hown, hb⟩
      have ho2 := Lib.hid hown
      have hb2 := Lib.hid hb
      clear hb hown
      have ho1' := Lib.hid (own_below ho1.out hb2.out)
      have hr1 := Lib.hid (Reads.of_own ho1'.out)
      have hr2 := Lib.hid (Reads.of_own ho2.out)
      go_wp2_with fail
      refine (same_eq _ A A' n n c c' _ hr1 hr2 (by omega)).mono ?_
      rintro e w3 ⟨rfl, hb⟩
      have hb3 := Lib.hid hb
      clear hb hr1
      have ho1'' := Lib.hid (own_below ho1'.out hb3.out)
      have ho2'' := Lib.hid (own_below ho2.out hb3.out)
      have hd : Hid (∀ g, A = some ⟨g, 0, none⟩ → g < w1.heap.size) := fun g hg => (ho1.out.lt g (by rw [hg]; rfl)).2
      have hb0 := Lib.hid (hb1.out.trans ((hb2.out.trans (hb3.out.mono hb2.out.size)).mono hb1.out.size))
      have hz1 := Lib.hid hb1.out.size
      clear hr2 ho1' ho2
      go_wp2_with fail
      go_loopw [9] (fun i wr => ∃ (k : Nat) (xs : List Value), k ≤ n ∧ i = .int .i64 k ∧ Hid (wr.ownsRow w.heap.size 3 1 (.slice A n c) n xs) ∧ Hid (wr.ownsRow w1.heap.size 3 1 (.slice A' n c') n (ints (hl s n))) ∧ Hid (Below w.heap.size w wr)) (fun i _ => n - (intOf i).toNat)
      case atStart => exact ⟨0, _, by omega, rfl, ho1''.out, own_base ho2''.out (Nat.le_refl _), hb0.out⟩
      case round =>
        obtain ⟨k, xs, hk, rfl, hown1, hown2, hbel⟩ := hrel
        by_cases hlt : k < n
        · obtain ⟨g, rfl, hg1, hg2⟩ := own_at hown1.out (by omega)
          have hst := Lib.hid (hown1.out.stored k (.int .i64 0))
          have hne : Hid ((Value.slice A' n c').ownBlock ≠ some g) := by
            intro he
            have h1 := (hown2.out.lt g he).1
            have h2 := hd.out g rfl
            omega
          have ho' : Hid ((wr.setCell ⟨g, k, none⟩ (.int .i64 0)).ownsRow w1.heap.size 3 1 (.slice A' n c') n (ints (hl s n))) := hown2.out.kept hst.out.2 (.inr hne.out)
          have hbel' : Hid (Below w.heap.size w (wr.setCell ⟨g, k, none⟩ (.int .i64 0))) := hbel.out.setCell hg1 _
          have hc : wr.cell? ⟨g, k, none⟩ = some (xs.getD k undef) := by
            have hx := hown1.out.1
            rw [hown1.out.cellAt k (by omega), List.getElem?_eq_getElem (by omega)]
            simp [List.getD, show k < xs.length by omega]
          generalize xs.getD k undef = u at hc
          have hf : wr.frozen? ⟨g, k, none⟩ = false := hown1.out.frozenAt k
          go_wp2_with fail
          go_roundw
          case rel => exact ⟨k + 1, _, by omega, by go_num, hst.out.1, ho', hbel'⟩
          case measure => simp [intOf]; omega
        · have hT' : Hid (Tab wr) := tab_below hT hbel.out (tab_lt hT)
          go_wp2_with fail
          refine (heights_ok s n hs _ hn hT').mono ?_
          rintro e w4 ⟨A4, c4, rfl, hown4, hb⟩
          have ho4 := Lib.hid hown4
          have hb4 := Lib.hid hb
          clear hb hown4
          have hr4 := Lib.hid (Reads.of_own ho4.out)
          have hr2 := Lib.hid (Reads.of_own (own_below hown2.out hb4.out))
          go_wp2_with fail
          refine (same_eq _ A4 A' n n c4 c' _ hr4 hr2 (by omega)).mono ?_
          rintro e w5 ⟨rfl, hb⟩
          have hb5 := Lib.hid hb
          clear hb
          go_wp2_with fail
          go_ret
          exact ⟨rfl, hbel.out.trans ((hb4.out.trans (hb5.out.mono hb4.out.size)).mono hbel.out.size)⟩
end Go.Proofs.YtmokfjlkfhopnaaDoor
