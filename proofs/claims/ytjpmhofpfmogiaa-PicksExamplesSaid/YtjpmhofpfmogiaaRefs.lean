/- leapfrogref10.Thread, Chosen, check, Without, picks.Without and Thread walked. -/
import Derived.Test.YtjpmhofpfmogiaaGap
namespace Go.Proofs.Ytjpmhofpfmogiaa
open Go Go.RowKit
set_option linter.unusedVariables false

/-! ### One pick -/
theorem thread_any (t p : Int) (w : World) :
    Calls Try.prog 21 #[.int .i64 t, .int .i64 p] w fun e w' => e = .returned (.tuple #[.int .i64 (if vld t then p % t else 0), .int .i64 (if vld t then 0 else 2)]) ∧ w = w' := by
  rcases chk_cases t 0 0 with ⟨h, hc⟩ | ⟨h1, h2, h3, h4, h5, hc⟩ | ⟨h1, h2, h3, h4, h5, hc⟩
  · have hv : vld t = false := by simp [vld]; omega
    rw [hv]
    go_enter Try.func21, Try.ntmps21
    go_wp2_with fail
    refine (check_any t 0 0 _).mono ?_
    rintro e w' ⟨rfl, rfl⟩
    rw [hc]
    go_wp2_with fail
    go_ret2
    exact ⟨by simp, rfl⟩
  · omega
  · have hv : vld t = true := by simp [vld]; omega
    rw [hv]
    go_enter Try.func21, Try.ntmps21
    go_wp2_with fail
    refine (check_any t 0 0 _).mono ?_
    rintro e w' ⟨rfl, rfl⟩
    rw [hc]
    go_wp2_with fail
    refine (of_any t p h1 h2 _).mono ?_
    rintro e w' ⟨rfl, rfl⟩
    go_wp2_with fail
    go_ret2
    exact ⟨by simp, rfl⟩
theorem rthread_any (t p : Int) (w : World) :
    Calls Try.prog 22 #[.int .i64 t, .int .i64 p] w fun e w' => e = .returned (.tuple #[.int .i64 (if vld t then p % t else 0), .int .i64 (if vld t then 0 else 2)]) ∧ w = w' := by
  cases hv : vld t with
  | false =>
    go_enter Try.func22, Try.ntmps22
    go_wp2_with fail
    refine (valid_any t _).mono ?_
    rintro e w' ⟨rfl, rfl⟩
    rw [hv]
    go_wp2_with fail
    go_ret2
    exact ⟨by simp, rfl⟩
  | true =>
    have h12 : 1 ≤ t ∧ t ≤ 64 := by simpa [vld] using hv
    go_enter Try.func22, Try.ntmps22
    go_wp2_with fail
    refine (valid_any t _).mono ?_
    rintro e w' ⟨rfl, rfl⟩
    rw [hv]
    go_wp2_with fail
    refine (rchosen_any t p h12.1 h12.2 _).mono ?_
    rintro e w' ⟨rfl, rfl⟩
    go_wp2_with fail
    go_ret2
    exact ⟨by simp, rfl⟩
theorem rcheck_any (t a : Int) (A : Option Addr) (len cap : Nat) (w : World) :
    Calls Try.prog 37 #[.int .i64 t, .int .i64 a, .slice A len cap] w fun e w' => e = .returned (.int .i64 (chk t a len)) ∧ w = w' := by
  cases hv : vld t with
  | false =>
    have hc : chk t a len = 2 := by unfold chk; rw [if_pos]; simp [vld] at hv; omega
    rw [hc]
    go_enter Try.func37, Try.ntmps37
    go_wp2_with fail
    refine (valid_any t _).mono ?_
    rintro e w' ⟨rfl, rfl⟩
    rw [hv]
    go_wp2_with fail
    go_ret
    exact ⟨rfl, rfl⟩
  | true =>
    have h12 : 1 ≤ t ∧ t ≤ 64 := by simpa [vld] using hv
    by_cases g1 : a < 0
    · have hc : chk t a len = 2 := by unfold chk; rw [if_pos (by omega)]
      rw [hc]
      go_enter Try.func37, Try.ntmps37
      go_wp2_with fail
      refine (valid_any t _).mono ?_
      rintro e w' ⟨rfl, rfl⟩
      rw [hv]
      go_wp2_with fail
      go_ret
      exact ⟨rfl, rfl⟩
    · by_cases g2 : t ≤ a
      · have hc : chk t a len = 2 := by unfold chk; rw [if_pos (by omega)]
        rw [hc]
        go_enter Try.func37, Try.ntmps37
        go_wp2_with fail
        refine (valid_any t _).mono ?_
        rintro e w' ⟨rfl, rfl⟩
        rw [hv]
        go_wp2_with fail
        go_ret
        exact ⟨rfl, rfl⟩
      · by_cases g3 : (65536 : Int) < len
        · have hc : chk t a len = 5 := by unfold chk; rw [if_neg (by omega), if_pos g3]
          rw [hc]
          go_enter Try.func37, Try.ntmps37
          go_wp2_with fail
          refine (valid_any t _).mono ?_
          rintro e w' ⟨rfl, rfl⟩
          rw [hv]
          go_wp2_with fail
          go_ret
          exact ⟨rfl, rfl⟩
        · have hc : chk t a len = 0 := by unfold chk; rw [if_neg (by omega), if_neg g3]
          rw [hc]
          go_enter Try.func37, Try.ntmps37
          go_wp2_with fail
          refine (valid_any t _).mono ?_
          rintro e w' ⟨rfl, rfl⟩
          rw [hv]
          go_wp2_with fail
          go_ret
          exact ⟨rfl, rfl⟩

/-! ### Chosen of the reference -/
theorem rchosens_err (t : Int) (A : Option Addr) (len cap : Nat) (w : World) (er : Int) (hc : chk t 0 len = er) (h0 : er = 2 ∨ er = 5) :
    Calls Try.prog 13 #[.int .i64 t, .slice A len cap] w fun e w' => e = .returned (.tuple #[.slice none 0 0, .int .i64 er]) ∧ w = w' := by
  rcases chk_cases t 0 len with ⟨h, hc2⟩ | ⟨h1, h2, h3, h4, h5, hc2⟩ | ⟨h1, h2, h3, h4, h5, hc2⟩
  · obtain rfl : er = 2 := by omega
    have hv : vld t = false := by simp [vld]; omega
    go_enter Try.func13, Try.ntmps13
    go_wp2_with fail
    refine (valid_any t _).mono ?_
    rintro e w' ⟨rfl, rfl⟩
    rw [hv]
    go_wp2_with fail
    go_ret2
    exact ⟨rfl, rfl⟩
  · obtain rfl : er = 5 := by omega
    have hv : vld t = true := by simp [vld]; omega
    go_enter Try.func13, Try.ntmps13
    go_wp2_with fail
    refine (valid_any t _).mono ?_
    rintro e w' ⟨rfl, rfl⟩
    rw [hv]
    go_wp2_with fail
    go_ret2
    exact ⟨rfl, rfl⟩
  · omega

theorem chl_snoc (t : Int) {l : List Int} {k : Nat} {v : Int} (hv : l[k]? = some v) : chl t (l.take (k + 1)) = chl t (l.take k) ++ [v % t] := by
  rw [take_snoc hv]
  unfold chl
  rw [List.map_append]
  rfl

set_option maxHeartbeats 1000000 in
theorem rchosens_ok (t : Int) (h1 : 1 ≤ t) (h2 : t ≤ 64) (l : List Int) (A : Option Addr) (len cap : Nat) (w : World) (hr : Hid (Reads w w.heap.size 1 A len (ints l))) (hlen : len ≤ 65536) :
    Calls Try.prog 13 #[.int .i64 t, .slice A len cap] w (IntsEnd (chl t l) w) := by
  have hl : Hid (l.length = len) := by have := hr.out.1; rw [ints_len] at this; unfold Hid; omega
  have hv : vld t = true := by simp [vld]; omega
  obtain ⟨i0, hi0, hz0, hz1, hz2⟩ := info_parts infoInt
  go_enter Try.func13, Try.ntmps13
  go_wp2_with fail
  refine (valid_any t _).mono ?_
  rintro e w' ⟨rfl, rfl⟩
  rw [hv]
  go_wp2_with fail
  go_loopw [6, 7] (fun v i wr => ∃ k : Nat, k ≤ len ∧ i = .int .i64 k ∧ Hid (wr.ownsRow w.heap.size 3 1 v k (ints (chl t (l.take k)))) ∧ Hid (Below w.heap.size w wr)) (fun _ i _ => len - (intOf i).toNat)
  case atStart => exact ⟨0, by omega, rfl, World.ownsRow_nil _ _ _ _, Below.refl _ _⟩
  case round =>
    obtain ⟨k, hk, rfl, hown, hbel⟩ := hrel
    by_cases hlt : k < len
    · obtain ⟨ad, u, rfl, _, hx, hc⟩ := (hr.out.below hbel.out).at_ hlt
      obtain ⟨v, hv', rfl⟩ := ints_get l k hx
      have hsn := Lib.hid (chl_snoc t hv')
      have hsz := Lib.hid hbel.out.size
      clear hx hv'
      go_wp2_with fail
      refine (rchosen_any t v h1 h2 _).mono ?_
      rintro e w' ⟨rfl, rfl⟩
      generalize v % t = c at *
      go_wp2_with (at_builtin; refine wpList_append_own _ rfl _ _ 22 rfl w.heap.size 3 i0 (.int .i64 0) 1 8 Try.underlying22 hi0 hz0 hz1 hz2 rfl (by decide) _ k (ints (chl t (l.take k))) rfl (hown.out.alloc _) ⟨wr.heap.size, 0, none⟩ 1 1 [.int .i64 c] rfl rfl (cell_one_new _ _ _) (by simp [Value.oneCell']) (by unfold maxLen; omega) (by omega) (by have := hsz.out; simp; omega) ?_; intro v' w1 hown' hgrow _)
      have hbel' : Hid (Below w.heap.size w w1) := (hbel.out.alloc hsz.out _).grown hgrow (by have := hsz.out; simp; omega) (fun q hq => (hown.out.lt q hq).1)
      have hown2 : Hid (w1.ownsRow w.heap.size 3 1 v' (k + 1) (ints (chl t (l.take (k + 1))))) := by
        unfold Hid
        rw [hsn.out, ints_append]
        exact hown'
      clear hown' hgrow
      go_wp2
      go_roundw
      case rel => exact ⟨k + 1, by omega, by go_num, hown2, hbel'⟩
      case measure => simp [intOf]; omega
    · obtain rfl : k = len := by omega
      have htk : Hid (l.take k = l) := List.take_of_length_le (by have := hl.out; omega)
      obtain ⟨A', c, rfl, _⟩ := own_form hown.out
      go_wp2
      go_ret2
      have hown2 := hown.out
      rw [htk.out] at hown2
      have e1 : (chl t l).length = k := by rw [chl_len]; exact hl.out
      exact ⟨A', c, by rw [e1]; rfl, by rw [e1]; exact hown2, hbel.out⟩
end Go.Proofs.Ytjpmhofpfmogiaa
