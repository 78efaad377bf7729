/- The law DrawSeeds, walked. -/
import Derived.Test.YtmokfjlkfhopnaaDoorKnown
namespace Go.Proofs.YtmokfjlkfhopnaaDoor
open Go Go.RowKit Go.ChangeShapes
set_option linter.unusedVariables false

theorem shift_form (s k : Nat) : IntKind.u64.wrap ((s : Int) + IntKind.u64.wrap ((k : Int) * 11400714819323198485)) = (((s + k * 11400714819323198485) % 18446744073709551616 : Nat) : Int) := by
  simp only [IntKind.wrap_u64]
  rw [Int.add_emod, Int.emod_emod, ← Int.add_emod]
  rfl
theorem mix_back (s k x : Nat) (h : mix s k = x) (w : World) :
    Calls Tryd.prog 12 #[.int .u64 (IntKind.u64.wrap ((s : Int) + IntKind.u64.wrap ((k : Int) * 11400714819323198485))), .int .i64 0] w fun e w' => e = .returned (.int .u64 x) ∧ w = w' := by
  rw [shift_form]
  exact mix_at _ 0 _ _ _ rfl rfl (by decide) (by rw [mix_shift, h]) w
theorem mix_nat (s k x : Nat) (hk : k < 9223372036854775808) (h : mix s k = x) (w : World) :
    Calls Tryd.prog 12 #[.int .u64 s, .int .i64 k] w fun e w' => e = .returned (.int .u64 x) ∧ w = w' :=
  mix_at s k _ _ _ rfl rfl hk (by rw [h]) w

set_option maxHeartbeats 1000000 in
theorem seeds_law (a0 a1 a2 : Int) (w : World) (hT : Hid (Tab w)) (w0 : (Lit.int .u64 a0).wf = true) (w1 : (Lit.int .u64 a1).wf = true) (w2 : (Lit.int .i64 a2).wf = true) :
    Calls Tryd.prog 9 #[.int .u64 a0, .int .u64 a1, .int .i64 a2] w fun e w' => e = .returned (.bool true) ∧ Below w.heap.size w w' := by
  obtain ⟨s, rfl, hs⟩ := u64_of_wf w0
  obtain ⟨o, rfl, ho⟩ := u64_of_wf w1
  clear w0 w1 w2
  by_cases hneg : a2 < 0
  · go_enter Tryd.func9, Tryd.ntmps9
    go_wp2_with fail
    refine (known_any _ hT).mono ?_
    rintro e w1 ⟨rfl, hb⟩
    have hb' := Lib.hid hb
    clear hb
    go_wp2_with fail
    go_ret
    exact ⟨rfl, hb'.out⟩
  · by_cases hbig : 300 < a2
    · go_enter Tryd.func9, Tryd.ntmps9
      go_wp2_with fail
      refine (known_any _ hT).mono ?_
      rintro e w1 ⟨rfl, hb⟩
      have hb' := Lib.hid hb
      clear hb
      go_wp2_with fail
      go_ret
      exact ⟨rfl, hb'.out⟩
    · obtain ⟨n, rfl⟩ := Int.eq_ofNat_of_zero_le (by omega : 0 ≤ a2)
      have hn : n ≤ 300 := by omega
      clear hneg hbig
      go_enter Tryd.func9, Tryd.ntmps9
      go_wp2_with fail
      refine (heights_ok s n hs _ (by omega) hT).mono ?_
      rintro e w1 ⟨A, c, rfl, hown, hb⟩
      have hr := Lib.hid (Reads.of_own hown)
      have hcap := own_cap hown
      have hb1 := Lib.hid hb
      have hT1 : Hid (Tab w1) := tab_below hT hb (tab_lt hT)
      clear hb hown
      go_wp2_with fail
      go_loopw [9, 10] (fun i _ wr => ∃ k : Nat, k ≤ n ∧ i = .int .i64 k ∧ Hid (Below w1.heap.size w1 wr)) (fun i _ _ => n - (intOf i).toNat)
      case atStart => exact ⟨0, by omega, rfl, Below.refl _ _⟩
      case round =>
        obtain ⟨k, hk, rfl, hbel⟩ := hrel
        have hTr : Hid (Tab wr) := tab_below hT1 hbel.out (tab_lt hT1)
        by_cases hlt : k < n
        · obtain ⟨ad, u, rfl, _, hx, hc⟩ := (hr.out.below hbel.out).at_ hlt
          obtain ⟨v, hv, rfl⟩ := ints_get _ k hx
          rw [hl_get s n k hlt] at hv
          obtain rfl := Option.some.inj hv
          clear hx hv
          have i0 : (0 : Int) ≤ (k : Int) := by omega
          have i1 : (k : Int) < (n : Int) := by omega
          have hm := Lib.hid (mix_lt s k)
          generalize hmx : mix s k = x at *
          have hmX := Lib.hid hmx
          clear hmx
          by_cases hso : s = o
          · subst hso
            go_wp2_with fail
            refine (mix_nat s k x (by omega) hmX.out _).mono ?_
            rintro e w' ⟨rfl, rfl⟩
            go_wp2_with fail
            go_quiet ((first | (go_at_call 10; exact quiet_left (height_any x hm _ hTr)) | (go_at_call 12; with_reducible exact quiet_left (mix_back s k x hmX.out _)) | (go_at_call 12; with_reducible exact quiet_left (mix_nat s k x (by omega) hmX.out _))))
            go_wp2_with fail
            go_roundw
            case rel => exact ⟨k + 1, by omega, by go_num, below_drewN hbel.out _⟩
            case measure => simp [intOf]; omega
          · obtain ⟨y, hy⟩ : ∃ y, mix o k = y := ⟨_, rfl⟩
            have hne : ((y : Int) == (x : Int)) = false := by
              apply beq_eq_false_iff_ne.2
              intro h
              exact hso (mix_inj k hs.out ho.out (by rw [hmX.out, hy]; omega))
            have hne2 : ((s : Int) == (o : Int)) = false := beq_eq_false_iff_ne.2 (by omega)
            have hY := Lib.hid hy
            clear hy
            go_wp2_with fail
            refine (mix_nat s k x (by omega) hmX.out _).mono ?_
            rintro e w' ⟨rfl, rfl⟩
            go_wp2_with fail
            go_quiet ((first | (go_at_call 10; exact quiet_left (height_any x hm _ hTr)) | (go_at_call 12; with_reducible exact quiet_left (mix_back s k x hmX.out _)) | (go_at_call 12; with_reducible exact quiet_left (mix_nat o k y (by omega) hY.out _))))
            go_wp2_with fail
            go_roundw
            case rel => exact ⟨k + 1, by omega, by go_num, below_drewN hbel.out _⟩
            case measure => simp [intOf]; omega
        · obtain rfl : k = n := by omega
          obtain ⟨m, hm⟩ : ∃ m : Nat, m = k / 2 := ⟨_, rfl⟩
          have e2 : (k : Int) / 2 = (m : Int) := by omega
          have hmk : m ≤ k := by omega
          have E2 := Lib.hid e2
          clear e2 hm
          go_wp2_with fail
          rw [E2.out]
          refine (heights_ok s m hs _ (by omega) hTr).mono ?_
          rintro e w2 ⟨A2, c2, rfl, hown, hb⟩
          have hr2 := Lib.hid (Reads.of_own hown)
          have hb2 := Lib.hid hb
          clear hb hown
          have e3 : ((m : Int) == (k : Int) / 2) = true := by have := E2.out; rw [this]; simp
          go_wp2_with fail
          have hr3 : Hid (Reads w2 w2.heap.size 1 A (k / 2) (ints (hl s m))) := by
            have h1 := (((hr.out.below hbel.out).below (hb2.out.mono hbel.out.size)).more (Nat.le_trans hbel.out.size hb2.out.size)).take_ (m := k / 2) (by omega)
            have h2 : k / 2 = m := by have := E2.out; omega
            rw [Nat.mul_one] at h1
            rw [h2] at h1 ⊢
            unfold ints at h1 ⊢
            rw [← List.map_take, hl_take s hmk] at h1
            exact h1
          refine (same_eq (hl s m) A2 A m (k / 2) c2 c _ hr2 hr3 (by omega)).mono ?_
          rintro e w3 ⟨rfl, hb⟩
          have hb3 := Lib.hid hb
          have hb03 := Lib.hid (hbel.out.trans ((hb2.out.trans (hb3.out.mono hb2.out.size)).mono hbel.out.size))
          have hT3 : Hid (Tab w3) := tab_below hT1 hb03.out (tab_lt hT1)
          clear hb
          go_wp2_with fail
          refine (known_any _ hT3).mono ?_
          rintro e w4 ⟨rfl, hb⟩
          have hb4 := Lib.hid hb
          clear hb
          go_wp2_with fail
          go_ret
          exact ⟨rfl, hb1.out.trans ((hb03.out.trans (hb4.out.mono hb03.out.size)).mono hb1.out.size)⟩
end Go.Proofs.YtmokfjlkfhopnaaDoor
