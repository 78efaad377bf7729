/- leapfrogref10.Gap walked. -/
import Derived.Test.YtjpmhofpfmogiaaRCounts
import Derived.Test.YtjpmhofpfmogiaaGapP
import Derived.Deep.LoopGhost
namespace Go.Proofs.Ytjpmhofpfmogiaa
open Go Go.RowKit
set_option linter.unusedVariables false

theorem rgap_err (t a : Int) (A : Option Addr) (len cap : Nat) (w : World) (er : Int) (hc : chk t a len = er) (h0 : er = 2 ∨ er = 5) :
    Calls Try.prog 19 #[.int .i64 t, .int .i64 a, .slice A len cap] w fun e w' => e = .returned (.tuple #[.int .i64 0, .int .i64 er]) ∧ w = w' := by
  rcases h0 with rfl | rfl
  all_goals
    go_enter Try.func19, Try.ntmps19
    go_wp2_with fail
    refine (rcheck_any t a A len cap _).mono ?_
    rintro e w' ⟨rfl, rfl⟩
    rw [hc]
    go_wp2_with fail
    go_ret2
    exact ⟨rfl, rfl⟩
theorem chl_get (t : Int) {l : List Int} {k : Nat} {v : Int} (h : l[k]? = some v) : (chl t l)[k]? = some (v % t) := by
  unfold chl
  rw [List.getElem?_map, h]
  rfl

set_option maxHeartbeats 4000000 in
theorem rgap_ok (t a : Int) (h1 : 1 ≤ t) (h2 : t ≤ 64) (ha0 : 0 ≤ a) (ha1 : a < t) (l : List Int) (A : Option Addr) (len cap : Nat) (w : World) (hr : Hid (Reads w w.heap.size 1 A len (ints l))) (hlen : len ≤ 65536) :
    Calls Try.prog 19 #[.int .i64 t, .int .i64 a, .slice A len cap] w fun e w' => e = .returned (.tuple #[.int .i64 ((gapR a (chl t l)).1 : Int), .int .i64 0]) ∧ Below w.heap.size w w' := by
  have hl : Hid (l.length = len) := by have := hr.out.1; rw [ints_len] at this; unfold Hid; omega
  have hc0 : chk t a len = 0 := by unfold chk; rw [if_neg (by omega), if_neg (by omega)]
  have hcl : Hid ((chl t l).length = len) := by unfold Hid; rw [chl_len]; exact hl.out
  go_enter Try.func19, Try.ntmps19
  go_wp2_with fail
  refine (rcheck_any t a A len cap _).mono ?_
  rintro e w' ⟨rfl, rfl⟩
  rw [hc0]
  go_wp2_with fail
  go_loopg [9, 10] len (fun gh v i wr => ∃ k m : Nat, k + gh = len ∧ i = .int .i64 k ∧ v = .int .i64 m ∧ m ≤ 65536 ∧ Hid (GapAt a (chl t l) k m) ∧ Hid (Below w.heap.size w wr))
  case atStart => exact ⟨0, 0, by omega, rfl, rfl, by omega, gapAt_zero _ _, Below.refl _ _⟩
  case round =>
    obtain ⟨k, m, hk, rfl, rfl, hm, hG, hbel⟩ := hrel
    cases gk with
    | zero =>
      obtain rfl : k = len := by omega
      go_wp2
      go_ret2
      have hG2 := hG.out
      rw [← hcl.out] at hG2
      exact ⟨by rw [gapAt_end hG2]; rfl, hbel.out⟩
    | succ g =>
      have hlt : k < len := by omega
      obtain ⟨ad, rfl, _, _⟩ := hr.out.2 (by omega)
      have c0 : (k : Int) < (len : Int) := by omega
      by_cases hk0 : k = 0
      · have hR0 := Lib.hid (runAt_zero (gapAt_start hG.out (.inl hk0)) (by rw [hcl.out]; omega))
        have hb0 := hbel
        have hd1 : decide ((0 : Int) < (k : Int)) = false := by simp; omega
        have hd2 : decide (0 < k) = false := by simp; omega
        clear hG hbel hk0
        go_wp2_with fail
        go_loopg [11] (len - k) (fun gh i wr => ∃ q : Nat, q + gh = len ∧ i = .int .i64 q ∧ k ≤ q ∧ Hid (RunAt a (chl t l) k m q) ∧ Hid (Below w.heap.size w wr))
        case atStart => exact ⟨k, by omega, rfl, Nat.le_refl _, hR0.out, hb0.out⟩
        case round =>
          clear hR0
          obtain ⟨q, hq, rfl, hkq, hR, hbel⟩ := hrel
          cases gk with
          | zero =>
            obtain rfl : q = len := by omega
            have hG3 := Lib.hid (runAt_end hR.out (by rw [hcl.out]; omega) (fun x hx => by rw [List.getElem?_eq_none (by rw [hcl.out]; exact Nat.le_refl _)] at hx; cases hx))
            have hml := Lib.hid (gapAt_le hG3.out)
            rw [hcl.out] at hml
            obtain ⟨m2, hm2⟩ : ∃ m2 : Nat, max m (q - k) = m2 := ⟨_, rfl⟩
            rw [hm2] at hG3 hml
            by_cases hgr : (m : Int) < (q : Int) - (k : Int)
            · obtain rfl : m2 = q - k := by omega
              go_wp2_with fail
              go_roundg g
              case measure => omega
              case rel => exact ⟨k + 1, _, by omega, by go_num, congrArg (Value.int .i64) (by omega), by have := hml.out; omega, hG3, hbel⟩
            · obtain rfl : m2 = m := by omega
              go_wp2_with fail
              go_roundg g
              case measure => omega
              case rel => exact ⟨k + 1, _, by omega, by go_num, rfl, hm, hG3, hbel⟩
          | succ g2 =>
            obtain ⟨ad2, u, had, _, hx, hc⟩ := (hr.out.below hbel.out).at_ (show q < len by omega)
            obtain rfl : ad = ad2 := Option.some.inj had
            obtain ⟨v, hv, rfl⟩ := ints_get l q hx
            have hvc := Lib.hid (chl_get t hv)
            have q0 : (0 : Int) ≤ (q : Int) := by omega
            have q1 : (q : Int) < (len : Int) := by omega
            clear hx hv
            by_cases hva : v % t = a
            · have hG3 := Lib.hid (runAt_end hR.out (by rw [hcl.out]; omega) (fun x hx => by rw [hvc.out] at hx; rw [← Option.some.inj hx]; exact hva))
              have hml := Lib.hid (gapAt_le hG3.out)
              rw [hcl.out] at hml
              obtain ⟨m2, hm2⟩ : ∃ m2 : Nat, max m (q - k) = m2 := ⟨_, rfl⟩
              rw [hm2] at hG3 hml
              go_wp2_with fail
              refine (rchosen_any t v h1 h2 _).mono ?_
              rintro e w' ⟨rfl, rfl⟩
              rw [hva]
              by_cases hgr : (m : Int) < (q : Int) - (k : Int)
              · obtain rfl : m2 = q - k := by omega
                go_wp2_with fail
                go_roundg g
                case measure => omega
                case rel => exact ⟨k + 1, _, by omega, by go_num, congrArg (Value.int .i64) (by omega), by have := hml.out; omega, hG3, hbel⟩
              · obtain rfl : m2 = m := by omega
                go_wp2_with fail
                go_roundg g
                case measure => omega
                case rel => exact ⟨k + 1, _, by omega, by go_num, rfl, hm, hG3, hbel⟩
            · have hR2 := Lib.hid (runAt_step hR.out hvc.out hva)
              go_wp2_with fail
              refine (rchosen_any t v h1 h2 _).mono ?_
              rintro e w' ⟨rfl, rfl⟩
              go_wp2_with fail
              go_roundg g2
              case measure => omega
              case rel => exact ⟨q + 1, by omega, by go_num, by omega, hR2, hbel⟩
      · obtain ⟨k, rfl⟩ : ∃ k', k = k' + 1 := ⟨k - 1, by omega⟩
        clear hk0
        obtain ⟨ad2, u, had, _, hx, hc⟩ := (hr.out.below hbel.out).at_ (show k < len by omega)
        obtain rfl : ad = ad2 := Option.some.inj had
        obtain ⟨v, hv, rfl⟩ := ints_get l k hx
        have hvc := Lib.hid (chl_get t hv)
        obtain ⟨y, hy⟩ : ∃ y, l[k + 1]? = some y := ⟨_, List.getElem?_eq_getElem (by have := hl.out; omega)⟩
        have hyc := Lib.hid (chl_get t hy)
        have k0 : (0 : Int) ≤ (k : Int) := by omega
        have k1 : (k : Int) < (len : Int) := by omega
        clear hx hv hy
        by_cases hva : v % t = a
        · have hR0 := Lib.hid (runAt_zero (k := k + 1) (gapAt_start hG.out (.inr (by rw [Nat.add_sub_cancel, hvc.out, hva]))) (by rw [hcl.out]; omega))
          have hb0 := hbel
          clear hG
          go_wp2_with fail
          refine (rchosen_any t v h1 h2 _).mono ?_
          rintro e w' ⟨rfl, rfl⟩
          rw [hva]
          clear hbel hc
          go_wp2_with fail
          go_loopg [11] (len - (k + 1)) (fun gh i wr => ∃ q : Nat, q + gh = len ∧ i = .int .i64 q ∧ (k + 1) ≤ q ∧ Hid (RunAt a (chl t l) (k + 1) m q) ∧ Hid (Below w.heap.size w wr))
          case atStart => exact ⟨(k + 1), by omega, rfl, Nat.le_refl _, hR0.out, hb0.out⟩
          case round =>
            clear hR0
            obtain ⟨q, hq, rfl, hkq, hR, hbel⟩ := hrel
            cases gk with
            | zero =>
              obtain rfl : q = len := by omega
              have hG3 := Lib.hid (runAt_end hR.out (by rw [hcl.out]; omega) (fun x hx => by rw [List.getElem?_eq_none (by rw [hcl.out]; exact Nat.le_refl _)] at hx; cases hx))
              have hml := Lib.hid (gapAt_le hG3.out)
              rw [hcl.out] at hml
              obtain ⟨m2, hm2⟩ : ∃ m2 : Nat, max m (q - (k + 1)) = m2 := ⟨_, rfl⟩
              rw [hm2] at hG3 hml
              by_cases hgr : (m : Int) < (q : Int) - ((k : Int) + 1)
              · obtain rfl : m2 = q - (k + 1) := by omega
                go_wp2_with fail
                go_roundg g
                case measure => omega
                case rel => exact ⟨(k + 1) + 1, _, by omega, by go_num, congrArg (Value.int .i64) (by omega), by have := hml.out; omega, hG3, hbel⟩
              · obtain rfl : m2 = m := by omega
                go_wp2_with fail
                go_roundg g
                case measure => omega
                case rel => exact ⟨(k + 1) + 1, _, by omega, by go_num, rfl, hm, hG3, hbel⟩
            | succ g2 =>
              obtain ⟨ad2, u, had, _, hx, hc⟩ := (hr.out.below hbel.out).at_ (show q < len by omega)
              obtain rfl : ad = ad2 := Option.some.inj had
              obtain ⟨v, hv, rfl⟩ := ints_get l q hx
              have hvc := Lib.hid (chl_get t hv)
              have q0 : (0 : Int) ≤ (q : Int) := by omega
              have q1 : (q : Int) < (len : Int) := by omega
              clear hx hv
              by_cases hva : v % t = a
              · have hG3 := Lib.hid (runAt_end hR.out (by rw [hcl.out]; omega) (fun x hx => by rw [hvc.out] at hx; rw [← Option.some.inj hx]; exact hva))
                have hml := Lib.hid (gapAt_le hG3.out)
                rw [hcl.out] at hml
                obtain ⟨m2, hm2⟩ : ∃ m2 : Nat, max m (q - (k + 1)) = m2 := ⟨_, rfl⟩
                rw [hm2] at hG3 hml
                go_wp2_with fail
                refine (rchosen_any t v h1 h2 _).mono ?_
                rintro e w' ⟨rfl, rfl⟩
                rw [hva]
                by_cases hgr : (m : Int) < (q : Int) - ((k : Int) + 1)
                · obtain rfl : m2 = q - (k + 1) := by omega
                  go_wp2_with fail
                  go_roundg g
                  case measure => omega
                  case rel => exact ⟨(k + 1) + 1, _, by omega, by go_num, congrArg (Value.int .i64) (by omega), by have := hml.out; omega, hG3, hbel⟩
                · obtain rfl : m2 = m := by omega
                  go_wp2_with fail
                  go_roundg g
                  case measure => omega
                  case rel => exact ⟨(k + 1) + 1, _, by omega, by go_num, rfl, hm, hG3, hbel⟩
              · have hR2 := Lib.hid (runAt_step hR.out hvc.out hva)
                go_wp2_with fail
                refine (rchosen_any t v h1 h2 _).mono ?_
                rintro e w' ⟨rfl, rfl⟩
                go_wp2_with fail
                go_roundg g2
                case measure => omega
                case rel => exact ⟨q + 1, by omega, by go_num, by omega, hR2, hbel⟩
        · have hG2 := Lib.hid (gapAt_pass hG.out (by omega) (by rw [Nat.add_sub_cancel]; exact hvc.out) hva hyc.out)
          go_wp2_with fail
          refine (rchosen_any t v h1 h2 _).mono ?_
          rintro e w' ⟨rfl, rfl⟩
          go_wp2_with fail
          go_roundg g
          case measure => omega
          case rel => exact ⟨k + 1 + 1, m, by omega, by go_num, rfl, hm, hG2, hbel⟩
end Go.Proofs.Ytjpmhofpfmogiaa
