/- leapfrogref10.Counts walked. -/
import Derived.Test.YtjpmhofpfmogiaaWithout
namespace Go.Proofs.Ytjpmhofpfmogiaa
open Go Go.RowKit
set_option linter.unusedVariables false

theorem rcounts_err (t : Int) (A : Option Addr) (len cap : Nat) (w : World) (er : Int) (hc : chk t 0 len = er) (h0 : er = 2 ∨ er = 5) :
    Calls Try.prog 15 #[.int .i64 t, .slice A len cap] w fun e w' => e = .returned (.tuple #[.slice none 0 0, .int .i64 er]) ∧ w = w' := by
  rcases h0 with rfl | rfl
  all_goals
    go_enter Try.func15, Try.ntmps15
    go_wp2_with fail
    refine (rchosens_err t A len cap _ _ hc (by omega)).mono ?_
    rintro e w' ⟨rfl, rfl⟩
    go_wp2_with fail
    go_ret2
    exact ⟨rfl, rfl⟩

set_option maxHeartbeats 1000000 in
theorem rcounts_ok (T : Nat) (h1 : 1 ≤ T) (h2 : T ≤ 64) (l : List Int) (A : Option Addr) (len cap : Nat) (w : World) (hr : Hid (Reads w w.heap.size 1 A len (ints l))) (hlen : len ≤ 65536) :
    Calls Try.prog 15 #[.int .i64 (T : Int), .slice A len cap] w (IntsEnd (cnts T (chl T l)) w) := by
  have hl : Hid (l.length = len) := by have := hr.out.1; rw [ints_len] at this; unfold Hid; omega
  obtain ⟨i0, hi0, hz0, hz1, hz2⟩ := info_parts infoInt
  have hmk : ∀ W : World, (Instr.makeSlice 22 (.int .i64 (T : Int)) (.int .i64 (T : Int))).run Try.prog W = .ok (.slice (some ⟨W.heap.size, 0, none⟩) T T) (W.alloc (.cells (cntC T []).toArray 3)) := by
    intro W
    have h := run_make (P := Try.prog) W 22 3 i0 (.int .i64 0) Try.underlying22 hi0 hz0 .i64 .i64 T T (by omega) (by omega) (by rw [hz2]; omega) (by omega)
    rw [h]
    simp only [Int.toNat_natCast]
    have e : madeCells (Value.int .i64 0).cells (T * i0.size) = (cntC T []).toArray := by
      rw [hz1, Nat.mul_one, cntC_zero]
      apply Array.toList_inj.1
      exact toList_madeCells_one _ T
    rw [e]
  have HM := Lib.hid hmk
  clear hmk
  go_enter Try.func15, Try.ntmps15
  go_wp2_with fail
  refine (rchosens_ok (T : Int) (by omega) (by omega) l A len cap _ hr hlen).mono ?_
  rintro e w1 ⟨A1, c1, rfl, hown, hb⟩
  have hll : (chl T l).length = len := by rw [chl_len]; exact hl.out
  rw [hll] at hown
  have hlo : Hid (∀ v ∈ chl T l, 0 ≤ v ∧ v < T) := by
    intro v hv
    obtain ⟨p, _, rfl⟩ := List.mem_map.1 hv
    exact mod_lo T p (by omega)
  have hlc := Lib.hid hll
  clear hll
  generalize chl (T : Int) l = cl at *
  have hr1 : Hid (Reads w1 w1.heap.size 1 A1 len (ints cl)) := Reads.of_own hown
  have hb1 := Lib.hid hb
  have hz1 := Lib.hid hb.size
  clear hb hown hr
  rw [hlc.out]
  have hmk := HM.out
  go_wp2_with fail
  clear hmk
  go_loopw [9] (fun i wr => ∃ k : Nat, k ≤ len ∧ i = .int .i64 k ∧ Hid (Blk wr w1.heap.size 3 (cntC T (cl.take k)).toArray) ∧ Hid (Below w1.heap.size w1 wr)) (fun i _ => len - (intOf i).toNat)
  case atStart => exact ⟨0, by omega, rfl, Blk.new w1 _ _, (Below.refl _ _).alloc (Nat.le_refl _) _⟩
  case round =>
    obtain ⟨k, hk, rfl, hB, hbel⟩ := hrel
    by_cases hlt : k < len
    · obtain ⟨ad, u, rfl, _, hx, hc⟩ := (hr1.out.below hbel.out).at_ hlt
      obtain ⟨v, hv, rfl⟩ := ints_get cl k hx
      have hv2 := hlo.out v (List.mem_of_getElem? hv)
      have hsn := take_snoc hv
      obtain ⟨j, rfl⟩ : ∃ j : Nat, v = (j : Int) := ⟨v.toNat, by omega⟩
      have hj : j < T := by omega
      have hcell : wr.cell? ⟨w1.heap.size, j, none⟩ = some (.int .i64 (cnt (cl.take k) j : Int)) := by rw [hB.out.cell, List.getElem?_toArray, cntC_get hj]
      have hf : wr.frozen? ⟨w1.heap.size, j, none⟩ = false := hB.out.frozen _
      have hle : cnt (cl.take k) j ≤ 65536 := by have := cnt_le (cl.take k) j; rw [List.length_take] at this; omega
      have hB' : Hid (Blk (wr.setCell ⟨w1.heap.size, j, none⟩ (.int .i64 ((cnt (cl.take k) j : Int) + 1))) w1.heap.size 3 (cntC T (cl.take (k + 1))).toArray) := by
        have := hB.out.set_ j (.int .i64 ((cnt (cl.take k) j : Int) + 1))
        rw [List.setIfInBounds_toArray, cntC_set hj] at this
        unfold Hid
        rw [hsn]
        exact this
      have hbel' : Hid (Below w1.heap.size w1 (wr.setCell ⟨w1.heap.size, j, none⟩ (.int .i64 ((cnt (cl.take k) j : Int) + 1)))) := hbel.out.setCell (Nat.le_refl _) _
      clear hx hv hsn
      generalize cnt (cl.take k) j = c at *
      go_wp2_with fail
      go_roundw
      case rel => exact ⟨k + 1, by omega, by go_num, hB', hbel'⟩
      case measure => simp [intOf]; omega
    · obtain rfl : k = len := by omega
      have htk : Hid (cl.take k = cl) := List.take_of_length_le (by have := hlc.out; omega)
      go_wp2
      go_ret2
      have hB2 := hB.out
      rw [htk.out] at hB2
      unfold Blk at hB2
      refine ⟨_, _, by rw [cnts_len]; rfl, ?_, hb1.out.trans (hbel.out.mono hz1.out)⟩
      rw [cnts_len, cnts_cells]
      exact ⟨by rw [cntC_len, Nat.mul_one], .inr ⟨_, _, _, rfl, hz1.out, hB2, Nat.le_refl _, by unfold maxLen; omega, by rw [List.size_toArray, cntC_len, Nat.mul_one], by rw [Nat.mul_one]; exact List.take_of_length_le (by rw [cntC_len]; exact Nat.le_refl _)⟩⟩
end Go.Proofs.Ytjpmhofpfmogiaa
