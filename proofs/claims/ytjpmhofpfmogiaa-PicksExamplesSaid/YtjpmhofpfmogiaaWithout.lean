/- Without walked: the program's and the reference's (printed by gen_without.py). -/
import Derived.Test.YtjpmhofpfmogiaaRefs
namespace Go.Proofs.Ytjpmhofpfmogiaa
open Go Go.RowKit
set_option linter.unusedVariables false

/-- The picks that do not choose a thread. -/
def wo (t a : Int) (l : List Int) : List Int := l.filter fun p => decide (p % t ≠ a)
theorem wo_hit (t a : Int) {l : List Int} {k : Nat} {v : Int} (hv : l[k]? = some v) (h : v % t ≠ a) : wo t a (l.take (k + 1)) = wo t a (l.take k) ++ [v] := by
  rw [take_snoc hv]
  unfold wo
  rw [List.filter_append]
  simp [h]
theorem wo_miss (t a : Int) {l : List Int} {k : Nat} {v : Int} (hv : l[k]? = some v) (h : v % t = a) : wo t a (l.take (k + 1)) = wo t a (l.take k) := by
  rw [take_snoc hv]
  unfold wo
  rw [List.filter_append]
  simp [h]
theorem wo_len (t a : Int) (l : List Int) (k : Nat) : (wo t a (l.take k)).length ≤ k := Nat.le_trans (List.length_filter_le _ _) (List.length_take_le _ _)

theorem without_err (t a : Int) (A : Option Addr) (len cap : Nat) (w : World) (er : Int) (hc : chk t a len = er) (h0 : er = 2 ∨ er = 5) :
    Calls Try.prog 16 #[.int .i64 t, .int .i64 a, .slice A len cap] w fun e w' => e = .returned (.tuple #[.slice none 0 0, .int .i64 er]) ∧ w = w' := by
  rcases h0 with rfl | rfl
  all_goals
    go_enter Try.func16, Try.ntmps16
    go_wp2_with fail
    refine (check_any t a len _).mono ?_
    rintro e w' ⟨rfl, rfl⟩
    rw [hc]
    go_wp2_with fail
    go_ret2
    exact ⟨rfl, rfl⟩

set_option maxHeartbeats 1000000 in
theorem without_ok (t a : Int) (h1 : 1 ≤ t) (h2 : t ≤ 64) (ha0 : 0 ≤ a) (ha1 : a < t) (l : List Int) (A : Option Addr) (len cap : Nat) (w : World) (hr : Hid (Reads w w.heap.size 1 A len (ints l))) (hlen : len ≤ 65536) :
    Calls Try.prog 16 #[.int .i64 t, .int .i64 a, .slice A len cap] w (IntsEnd (wo t a l) w) := by
  have hl : Hid (l.length = len) := by have := hr.out.1; rw [ints_len] at this; unfold Hid; omega
  have hc0 : chk t a len = 0 := by unfold chk; rw [if_neg (by omega), if_neg (by omega)]
  obtain ⟨i0, hi0, hz0, hz1, hz2⟩ := info_parts infoInt
  go_enter Try.func16, Try.ntmps16
  go_wp2_with fail
  refine (check_any t a len _).mono ?_
  rintro e w' ⟨rfl, rfl⟩
  rw [hc0]
  go_wp2_with fail
  go_loopw [9, 22] (fun v i wr => ∃ k : Nat, k ≤ len ∧ i = .int .i64 k ∧ Hid (wr.ownsRow w.heap.size 3 1 v (wo t a (l.take k)).length (ints (wo t a (l.take k)))) ∧ Hid (Below w.heap.size w wr)) (fun _ i _ => len - (intOf i).toNat)
  case atStart => exact ⟨0, by omega, rfl, World.ownsRow_nil _ _ _ _, Below.refl _ _⟩
  case round =>
    obtain ⟨k, hk, rfl, hown, hbel⟩ := hrel
    by_cases hlt : k < len
    · obtain ⟨ad, u, rfl, _, hx, hc⟩ := (hr.out.below hbel.out).at_ hlt
      obtain ⟨v, hv, rfl⟩ := ints_get l k hx
      have hsz := Lib.hid hbel.out.size
      have hwl := wo_len t a l k
      clear hx
      by_cases hva : v % t = a
      · have hsn := Lib.hid (wo_miss t a hv hva)
        clear hv
        have hown2 : Hid (wr.ownsRow w.heap.size 3 1 u9 (wo t a (l.take (k + 1))).length (ints (wo t a (l.take (k + 1))))) := by
          unfold Hid
          rw [hsn.out]
          exact hown.out
        go_wp2_with fail
        refine (of_any t v h1 h2 _).mono ?_
        rintro e w' ⟨rfl, rfl⟩
        rw [hva]
        go_wp2_with fail
        go_roundw
        case rel => exact ⟨k + 1, by omega, by go_num, hown2, hbel⟩
        case measure => simp [intOf]; omega
      · have hsn := Lib.hid (wo_hit t a hv hva)
        clear hv
        generalize hos : wo t a (l.take k) = os at *
        generalize hos2 : wo t a (l.take (k + 1)) = os2 at *
        go_wp2_with fail
        refine (of_any t v h1 h2 _).mono ?_
        rintro e w' ⟨rfl, rfl⟩
        generalize v % t = c at *
        go_wp2_with (at_builtin; refine wpList_append_own _ rfl _ _ 22 rfl w.heap.size 3 i0 (.int .i64 0) 1 8 Try.underlying22 hi0 hz0 hz1 hz2 rfl (by decide) _ os.length (ints os) rfl (hown.out.alloc _) ⟨wr.heap.size, 0, none⟩ 1 1 [.int .i64 v] rfl rfl (cell_one_new _ _ _) (by simp [Value.oneCell']) (by unfold maxLen; omega) (by omega) (by have := hsz.out; simp; omega) ?_; intro v' w1 hown' hgrow _)
        have hbel' : Hid (Below w.heap.size w w1) := (hbel.out.alloc hsz.out _).grown hgrow (by have := hsz.out; simp; omega) (fun q hq => (hown.out.lt q hq).1)
        have hown2 : Hid (w1.ownsRow w.heap.size 3 1 v' os2.length (ints os2)) := by
          unfold Hid
          rw [hsn.out, ints_append, List.length_append]
          exact hown'
        clear hown' hgrow
        go_wp2
        go_roundw
        case rel => exact ⟨k + 1, by omega, by go_num, by rw [hos2]; exact hown2, hbel'⟩
        case measure => simp [intOf]; omega
    · obtain rfl : k = len := by omega
      have htk : Hid (l.take k = l) := List.take_of_length_le (by have := hl.out; omega)
      obtain ⟨A', c, rfl, _⟩ := own_form hown.out
      go_wp2
      go_ret2
      have hown2 := hown.out
      rw [htk.out] at hown2 ⊢
      exact ⟨A', c, rfl, hown2, hbel.out⟩

theorem rwithout_err (t a : Int) (A : Option Addr) (len cap : Nat) (w : World) (er : Int) (hc : chk t a len = er) (h0 : er = 2 ∨ er = 5) :
    Calls Try.prog 17 #[.int .i64 t, .int .i64 a, .slice A len cap] w fun e w' => e = .returned (.tuple #[.slice none 0 0, .int .i64 er]) ∧ w = w' := by
  rcases h0 with rfl | rfl
  all_goals
    go_enter Try.func17, Try.ntmps17
    go_wp2_with fail
    refine (rcheck_any t a A len cap _).mono ?_
    rintro e w' ⟨rfl, rfl⟩
    rw [hc]
    go_wp2_with fail
    go_ret2
    exact ⟨rfl, rfl⟩

set_option maxHeartbeats 1000000 in
theorem rwithout_ok (t a : Int) (h1 : 1 ≤ t) (h2 : t ≤ 64) (ha0 : 0 ≤ a) (ha1 : a < t) (l : List Int) (A : Option Addr) (len cap : Nat) (w : World) (hr : Hid (Reads w w.heap.size 1 A len (ints l))) (hlen : len ≤ 65536) :
    Calls Try.prog 17 #[.int .i64 t, .int .i64 a, .slice A len cap] w (IntsEnd (wo t a l) w) := by
  have hl : Hid (l.length = len) := by have := hr.out.1; rw [ints_len] at this; unfold Hid; omega
  have hc0 : chk t a len = 0 := by unfold chk; rw [if_neg (by omega), if_neg (by omega)]
  obtain ⟨i0, hi0, hz0, hz1, hz2⟩ := info_parts infoInt
  go_enter Try.func17, Try.ntmps17
  go_wp2_with fail
  refine (rcheck_any t a A len cap _).mono ?_
  rintro e w' ⟨rfl, rfl⟩
  rw [hc0]
  go_wp2_with fail
  go_loopw [9, 10] (fun v i wr => ∃ k : Nat, k ≤ len ∧ i = .int .i64 k ∧ Hid (wr.ownsRow w.heap.size 3 1 v (wo t a (l.take k)).length (ints (wo t a (l.take k)))) ∧ Hid (Below w.heap.size w wr)) (fun _ i _ => len - (intOf i).toNat)
  case atStart => exact ⟨0, by omega, rfl, World.ownsRow_nil _ _ _ _, Below.refl _ _⟩
  case round =>
    obtain ⟨k, hk, rfl, hown, hbel⟩ := hrel
    by_cases hlt : k < len
    · obtain ⟨ad, u, rfl, _, hx, hc⟩ := (hr.out.below hbel.out).at_ hlt
      obtain ⟨v, hv, rfl⟩ := ints_get l k hx
      have hsz := Lib.hid hbel.out.size
      have hwl := wo_len t a l k
      clear hx
      by_cases hva : v % t = a
      · have hsn := Lib.hid (wo_miss t a hv hva)
        clear hv
        have hown2 : Hid (wr.ownsRow w.heap.size 3 1 u9 (wo t a (l.take (k + 1))).length (ints (wo t a (l.take (k + 1))))) := by
          unfold Hid
          rw [hsn.out]
          exact hown.out
        go_wp2_with fail
        refine (rchosen_any t v h1 h2 _).mono ?_
        rintro e w' ⟨rfl, rfl⟩
        rw [hva]
        go_wp2_with fail
        go_roundw
        case rel => exact ⟨k + 1, by omega, by go_num, hown2, hbel⟩
        case measure => simp [intOf]; omega
      · have hsn := Lib.hid (wo_hit t a hv hva)
        clear hv
        generalize hos : wo t a (l.take k) = os at *
        generalize hos2 : wo t a (l.take (k + 1)) = os2 at *
        go_wp2_with fail
        refine (rchosen_any t v h1 h2 _).mono ?_
        rintro e w' ⟨rfl, rfl⟩
        generalize v % t = c at *
        go_wp2_with (at_builtin; refine wpList_append_own _ rfl _ _ 22 rfl w.heap.size 3 i0 (.int .i64 0) 1 8 Try.underlying22 hi0 hz0 hz1 hz2 rfl (by decide) _ os.length (ints os) rfl (hown.out.alloc _) ⟨wr.heap.size, 0, none⟩ 1 1 [.int .i64 v] rfl rfl (cell_one_new _ _ _) (by simp [Value.oneCell']) (by unfold maxLen; omega) (by omega) (by have := hsz.out; simp; omega) ?_; intro v' w1 hown' hgrow _)
        have hbel' : Hid (Below w.heap.size w w1) := (hbel.out.alloc hsz.out _).grown hgrow (by have := hsz.out; simp; omega) (fun q hq => (hown.out.lt q hq).1)
        have hown2 : Hid (w1.ownsRow w.heap.size 3 1 v' os2.length (ints os2)) := by
          unfold Hid
          rw [hsn.out, ints_append, List.length_append]
          exact hown'
        clear hown' hgrow
        go_wp2
        go_roundw
        case rel => exact ⟨k + 1, by omega, by go_num, by rw [hos2]; exact hown2, hbel'⟩
        case measure => simp [intOf]; omega
    · obtain rfl : k = len := by omega
      have htk : Hid (l.take k = l) := List.take_of_length_le (by have := hl.out; omega)
      obtain ⟨A', c, rfl, _⟩ := own_form hown.out
      go_wp2
      go_ret2
      have hown2 := hown.out
      rw [htk.out] at hown2 ⊢
      exact ⟨A', c, rfl, hown2, hbel.out⟩
end Go.Proofs.Ytjpmhofpfmogiaa
