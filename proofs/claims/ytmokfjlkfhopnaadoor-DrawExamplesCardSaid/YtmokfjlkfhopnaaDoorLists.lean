/- Lists of ints: compared; the heights of a seed's draws; the fixed draws. -/
import Derived.Test.YtmokfjlkfhopnaaDoorTalW
import Derived.Deep.QuietTactic
import Derived.BigQuiet
namespace Go.Proofs.YtmokfjlkfhopnaaDoor
open Go Go.RowKit Go.ChangeShapes
set_option linter.unusedVariables false

/-! ### same -/
theorem same_eq (l : List Int) (A A' : Option Addr) (n n' c c' : Nat) (w : World) (hr : Hid (Reads w w.heap.size 1 A n (ints l))) (hr' : Hid (Reads w w.heap.size 1 A' n' (ints l))) (hn : n ≤ 4611686018427387904) :
    Calls Tryd.prog 19 #[.slice A n c, .slice A' n' c'] w fun e w' => e = .returned (.bool true) ∧ Below w.heap.size w w' := by
  obtain rfl : n = n' := by have h1 := hr.out.1; have h2 := hr'.out.1; omega
  go_enter Tryd.func19, Tryd.ntmps19
  go_wp2_with fail
  go_loopw [5] (fun i wr => ∃ k : Nat, k ≤ n ∧ i = .int .i64 k ∧ Hid (Below w.heap.size w wr)) (fun i _ => n - (intOf i).toNat)
  case atStart => exact ⟨0, by omega, rfl, Below.refl _ _⟩
  case round =>
    obtain ⟨k, hk, rfl, hbel⟩ := hrel
    by_cases hlt : k < n
    · obtain ⟨ad, u, rfl, _, hx, hc⟩ := (hr.out.below hbel.out).at_ hlt
      obtain ⟨ad', u', rfl, _, hx', hc'⟩ := (hr'.out.below hbel.out).at_ hlt
      obtain rfl : u = u' := Option.some.inj (hx.symm.trans hx')
      obtain ⟨v, hv, rfl⟩ := ints_get l k hx
      clear hx hx' hv
      have i0 : (0 : Int) ≤ (k : Int) := by omega
      have i1 : (k : Int) < (n : Int) := by omega
      go_wp2_with fail
      go_quiet (fail)
      go_wp2
      go_roundw
      case rel => exact ⟨k + 1, by omega, by go_num, below_drewN hbel.out _⟩
      case measure => simp [intOf]; omega
    · go_wp2
      go_ret
      exact ⟨rfl, hbel.out⟩

/-! ### Heights -/
theorem heights_neg (s : Nat) (n : Int) (w : World) (h : n < 0) :
    Calls Tryd.prog 17 #[.int .u64 s, .int .i64 n] w fun e w' => e = .returned (.tuple #[.slice none 0 0, .int .i64 2]) ∧ w = w' := by
  go_enter Tryd.func17, Tryd.ntmps17
  go_wp2
  go_ret2
  exact ⟨rfl, rfl⟩
theorem heights_big (s : Nat) (n : Int) (w : World) (h : 1024 < n) :
    Calls Tryd.prog 17 #[.int .u64 s, .int .i64 n] w fun e w' => e = .returned (.tuple #[.slice none 0 0, .int .i64 5]) ∧ w = w' := by
  go_enter Tryd.func17, Tryd.ntmps17
  go_wp2
  go_ret2
  exact ⟨rfl, rfl⟩
theorem refheights_neg (s : Nat) (n : Int) (w : World) (h : n < 0) :
    Calls Tryd.prog 18 #[.int .u64 s, .int .i64 n] w fun e w' => e = .returned (.tuple #[.slice none 0 0, .int .i64 2]) ∧ w = w' := by
  go_enter Tryd.func18, Tryd.ntmps18
  go_wp2
  go_ret2
  exact ⟨rfl, rfl⟩
theorem refheights_big (s : Nat) (n : Int) (w : World) (h : 1024 < n) :
    Calls Tryd.prog 18 #[.int .u64 s, .int .i64 n] w fun e w' => e = .returned (.tuple #[.slice none 0 0, .int .i64 5]) ∧ w = w' := by
  go_enter Tryd.func18, Tryd.ntmps18
  go_wp2
  go_ret2
  exact ⟨rfl, rfl⟩

/-- What Heights returns: a new list of the heights. -/
def HeightsEnd (s n : Nat) (w : World) (e : Ending) (w' : World) : Prop :=
  ∃ A c, e = .returned (.tuple #[.slice A n c, .int .i64 0]) ∧ w'.ownsRow w.heap.size 3 1 (.slice A n c) n (ints (hl s n)) ∧ Below w.heap.size w w'

theorem heights_ok (s n : Nat) (hs : Hid (s < 18446744073709551616)) (w : World) (hn : n ≤ 1024) (hT : Hid (Tab w)) :
    Calls Tryd.prog 17 #[.int .u64 s, .int .i64 n] w (HeightsEnd s n w) := by
  obtain ⟨i0, hi0, hz0, hz1, hz2⟩ := info_parts infoInt
  have hmk : ∀ W : World, (Instr.makeSlice 29 (.int .i64 (n : Int)) (.int .i64 (n : Int))).run Tryd.prog W = .ok (.slice (some ⟨W.heap.size, 0, none⟩) n n) (W.alloc (.cells (harr s n 0).toArray 3)) := by
    intro W
    have h := run_make (P := Tryd.prog) W 29 3 i0 (.int .i64 0) Tryd.underlying29 hi0 hz0 .i64 .i64 n n (by omega) (by omega) (by rw [hz2]; omega) (by omega)
    rw [h]
    simp only [Int.toNat_natCast]
    have e : madeCells (Value.int .i64 0).cells (n * i0.size) = (harr s n 0).toArray := by
      rw [hz1, Nat.mul_one, harr_zero]
      apply Array.toList_inj.1
      exact toList_madeCells_one _ n
    rw [e]
  have HM := Lib.hid hmk
  clear hmk
  go_enter Tryd.func17, Tryd.ntmps17
  have hmk := HM.out
  go_wp2_with fail
  clear hmk
  go_loopw [7, 16] (fun _ i wr => ∃ k : Nat, k ≤ n ∧ i = .int .i64 k ∧ Hid (Blk wr w.heap.size 3 (harr s n k).toArray) ∧ Hid (Below w.heap.size w wr)) (fun _ i _ => n - (intOf i).toNat)
  case atStart => exact ⟨0, by omega, rfl, Blk.new w _ _, (Below.refl _ _).alloc (Nat.le_refl _) _⟩
  case round =>
    obtain ⟨k, hk, rfl, hB, hbel⟩ := hrel
    by_cases hlt : k < n
    · have hT' : Hid (Tab wr) := tab_below hT hbel.out (tab_lt hT)
      have hB' : Hid (Blk (wr.setCell ⟨w.heap.size, k, none⟩ (.int .i64 (hgt (mix s k) : Int))) w.heap.size 3 (harr s n (k + 1)).toArray) := by
        have := hB.out.set_ k (.int .i64 (hgt (mix s k) : Int))
        rw [List.setIfInBounds_toArray, harr_set s n k hlt] at this
        exact this
      have hbel' : Hid (Below w.heap.size w (wr.setCell ⟨w.heap.size, k, none⟩ (.int .i64 (hgt (mix s k) : Int)))) := hbel.out.setCell (Nat.le_refl _) _
      obtain ⟨v, hv⟩ : ∃ v, wr.cell? ⟨w.heap.size, k, none⟩ = some v := by
        rw [hB.out.cell]
        exact ⟨_, Array.getElem?_eq_getElem (by rw [List.size_toArray, harr_len s n k hk]; exact hlt)⟩
      have hf : wr.frozen? ⟨w.heap.size, k, none⟩ = false := hB.out.frozen k
      have hm := mix_lt s k
      have hm' := Lib.hid hm
      clear hm
      go_wp2_with fail
      refine (mix_any s k _).mono ?_
      rintro e w' ⟨rfl, rfl⟩
      rw [emod_nat k (by omega)]
      generalize mix s k = m at *
      go_wp2_with fail
      refine (height_any m hm' _ hT').mono ?_
      generalize hgt m = h at *
      rintro e w' ⟨rfl, rfl⟩
      go_wp2_with fail
      go_roundw
      case rel => exact ⟨k + 1, by omega, by go_num, hB', hbel'⟩
      case measure => simp [intOf]; omega
    · obtain rfl : k = n := by omega
      go_wp2
      go_ret2
      refine ⟨_, _, rfl, ?_, hbel.out⟩
      have hB2 := hB.out
      unfold Blk at hB2
      exact ⟨by rw [ints_len, hl_len, Nat.mul_one], .inr ⟨_, _, _, rfl, Nat.le_refl _, hB2, Nat.le_refl _, by unfold maxLen; omega, by rw [List.size_toArray, harr_len s k k hk, Nat.mul_one], by rw [harr_full, Nat.mul_one]; exact List.take_of_length_le (by rw [ints_len, hl_len]; exact Nat.le_refl _)⟩⟩

set_option maxHeartbeats 400000 in
theorem refheights_ok (s n : Nat) (hs : Hid (s < 18446744073709551616)) (w : World) (hn : n ≤ 1024) :
    Calls Tryd.prog 18 #[.int .u64 s, .int .i64 n] w (HeightsEnd s n w) := by
  obtain ⟨i0, hi0, hz0, hz1, hz2⟩ := info_parts infoInt
  go_enter Tryd.func18, Tryd.ntmps18
  go_wp2_with fail
  go_loopw [6, 7] (fun v i wr => ∃ k : Nat, k ≤ n ∧ i = .int .i64 k ∧ Hid (wr.ownsRow w.heap.size 3 1 v k (ints (hl s k))) ∧ Hid (Below w.heap.size w wr)) (fun _ i _ => n - (intOf i).toNat)
  case atStart => exact ⟨0, by omega, rfl, World.ownsRow_nil _ _ _ _, Below.refl _ _⟩
  case round =>
    obtain ⟨k, hk, rfl, hown, hbel⟩ := hrel
    by_cases hlt : k < n
    · have hm' := Lib.hid (mix_lt s k)
      have hs1 := Lib.hid (hl_succ s k)
      have hsz := Lib.hid hbel.out.size
      go_wp2_with fail
      refine (refmix_any s k _).mono ?_
      rintro e w' ⟨rfl, rfl⟩
      rw [emod_nat k (by omega)]
      generalize mix s k = m at *
      go_wp2_with fail
      refine (refheight_any m hm' _).mono ?_
      generalize hgt m = h at *
      rintro e w' ⟨rfl, rfl⟩
      go_wp2_with (at_builtin; refine wpList_append_own _ rfl _ _ 29 rfl w.heap.size 3 i0 (.int .i64 0) 1 8 Tryd.underlying29 hi0 hz0 hz1 hz2 rfl (by decide) _ k (ints (hl s k)) rfl (hown.out.alloc _) ⟨wr.heap.size, 0, none⟩ 1 1 [.int .i64 (h : Int)] rfl rfl (cell_one_new _ _ _) (by simp [Value.oneCell']) (by unfold maxLen; omega) (by omega) (by have := hsz.out; simp; omega) ?_; intro v' w1 hown' hgrow _)
      have hbel' : Hid (Below w.heap.size w w1) := (hbel.out.alloc hsz.out _).grown hgrow (by have := hsz.out; simp; omega) (fun q hq => (hown.out.lt q hq).1)
      have hown2 : Hid (w1.ownsRow w.heap.size 3 1 v' (k + 1) (ints (hl s (k + 1)))) := by
        unfold Hid
        rw [hs1.out, ints_append]
        exact hown'
      clear hown' hgrow
      go_wp2
      go_roundw
      case rel => exact ⟨k + 1, by omega, by go_num, hown2, hbel'⟩
      case measure => simp [intOf]; omega
    · obtain rfl : k = n := by omega
      obtain ⟨A, c, rfl, _⟩ := own_form hown.out
      go_wp2
      go_ret2
      exact ⟨A, c, rfl, hown.out, hbel.out⟩
end Go.Proofs.YtmokfjlkfhopnaaDoor
