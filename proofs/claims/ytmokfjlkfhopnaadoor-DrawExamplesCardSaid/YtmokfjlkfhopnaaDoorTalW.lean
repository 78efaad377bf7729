/- Tally, walked: the program's and the reference's (printed by gen_tal.py). -/
import Derived.Test.YtmokfjlkfhopnaaDoorLawNums
import Derived.Test.YtmokfjlkfhopnaaDoorTally
import Derived.Test.YtmokfjlkfhopnaaDoorArr
namespace Go.Proofs.YtmokfjlkfhopnaaDoor
open Go Go.RowKit Go.ChangeShapes
set_option linter.unusedVariables false
theorem talV_cells {w : World} {g t : Nat} {l : List Int} (h : Blk w g t (talV l)) (j : Nat) (hj : j < 6) : w.cell? ⟨g, j, none⟩ = some (.int .i64 (tal l j)) := by rw [h.cell, talV_get _ _ hj]
/-- What Tally returns. -/
def TalEnd (l : List Int) (w : World) (e : Ending) (w' : World) : Prop :=
  (okH l = true → e = .returned (.tuple #[.agg (talV l), .int .i64 0])) ∧ (okH l = false → e = .returned (.tuple #[.agg (talV []), .int .i64 3])) ∧ Below w.heap.size w w'
theorem okH_snoc {l : List Int} {k : Nat} {v : Int} (h : okH (l.take k) = true) (hv : l[k]? = some v) (h1 : 1 ≤ v) (h2 : v ≤ 6) : okH (l.take (k + 1)) = true := by
  rw [take_snoc hv]
  unfold okH at *
  rw [List.all_append, h]
  simp [h1, h2]
theorem okH_no {l : List Int} {k : Nat} {v : Int} (hv : l[k]? = some v) (h : v < 1 ∨ 6 < v) : okH l = false := by
  cases ho : okH l with
  | false => rfl
  | true => have := okH_get ho hv; omega

set_option maxHeartbeats 1000000 in
theorem tally_any (l : List Int) (A : Option Addr) (n c : Nat) (w : World) (hr : Hid (Reads w w.heap.size 1 A n (ints l))) (hn : n ≤ 9223372036854775807) :
    Calls Tryd.prog 15 #[.slice A n c] w (TalEnd l w) := by
  have hlen : Hid (l.length = n) := by have := hr.out.1; unfold Hid; simpa [ints] using this
  go_enter Tryd.func15, Tryd.ntmps15
  go_wp2_with fail
  go_loopw [9] (fun i wr => ∃ k : Nat, k ≤ n ∧ i = .int .i64 k ∧ Hid (Blk wr w.heap.size 25 (talV [])) ∧ Hid (Blk wr (w.heap.size + 1) 25 (talV (l.take k))) ∧ Hid (Below w.heap.size w wr) ∧ Hid (okH (l.take k) = true)) (fun i _ => n - (intOf i).toNat)
  case atStart => exact ⟨0, by omega, rfl, (Blk.new w _ _).alloc _, Blk.new1 w _ _ (talV []), ((Below.refl _ _).alloc (Nat.le_refl _) _).alloc (by simp) _, rfl⟩
  case round =>
    obtain ⟨k, hk, rfl, hB0, hB, hbel, hok⟩ := hrel
    by_cases hlt : k < n
    · obtain ⟨ad, u, rfl, _, hx, hc⟩ := (hr.out.below hbel.out).at_ hlt
      obtain ⟨v, hv, rfl⟩ := ints_get l k hx
      rcases (by omega : v < 1 ∨ 6 < v ∨ (1 ≤ v ∧ v ≤ 6)) with h1 | h1 | ⟨v1, v2⟩
      · have hno := Lib.hid (okH_no hv (.inl h1))
        have d0 := talV_cells hB0.out 0 (by omega)
        have d1 := talV_cells hB0.out 1 (by omega)
        have d2 := talV_cells hB0.out 2 (by omega)
        have d3 := talV_cells hB0.out 3 (by omega)
        have d4 := talV_cells hB0.out 4 (by omega)
        have d5 := talV_cells hB0.out 5 (by omega)
        have f0 := hB0.out.frozen 0
        have f1 := hB0.out.frozen 1
        have f2 := hB0.out.frozen 2
        have f3 := hB0.out.frozen 3
        have f4 := hB0.out.frozen 4
        have f5 := hB0.out.frozen 5
        clear hx hv
        go_wp2
        refine bodyPost_ret (v := .tuple #[.agg (talV []), .int .i64 3]) ?_ rfl ⟨fun h => ?_, fun _ => rfl, ?_⟩
        · simp [results, Tryd.results15, go_sem, talV, d0, d1, d2, d3, d4, d5, tal_nil]
        · rw [hno.out] at h; cases h
        · exact (((((hbel.out.setCell (Nat.le_refl _) _).setCell (Nat.le_refl _) _).setCell (Nat.le_refl _) _).setCell (Nat.le_refl _) _).setCell (Nat.le_refl _) _).setCell (Nat.le_refl _) _
      · have hno := Lib.hid (okH_no hv (.inr h1))
        have d0 := talV_cells hB0.out 0 (by omega)
        have d1 := talV_cells hB0.out 1 (by omega)
        have d2 := talV_cells hB0.out 2 (by omega)
        have d3 := talV_cells hB0.out 3 (by omega)
        have d4 := talV_cells hB0.out 4 (by omega)
        have d5 := talV_cells hB0.out 5 (by omega)
        have f0 := hB0.out.frozen 0
        have f1 := hB0.out.frozen 1
        have f2 := hB0.out.frozen 2
        have f3 := hB0.out.frozen 3
        have f4 := hB0.out.frozen 4
        have f5 := hB0.out.frozen 5
        clear hx hv
        go_wp2
        refine bodyPost_ret (v := .tuple #[.agg (talV []), .int .i64 3]) ?_ rfl ⟨fun h => ?_, fun _ => rfl, ?_⟩
        · simp [results, Tryd.results15, go_sem, talV, d0, d1, d2, d3, d4, d5, tal_nil]
        · rw [hno.out] at h; cases h
        · exact (((((hbel.out.setCell (Nat.le_refl _) _).setCell (Nat.le_refl _) _).setCell (Nat.le_refl _) _).setCell (Nat.le_refl _) _).setCell (Nat.le_refl _) _).setCell (Nat.le_refl _) _
      · have hok' := Lib.hid (okH_snoc hok.out hv v1 v2)
        obtain ⟨j, rfl⟩ : ∃ j : Nat, v = (j : Int) + 1 := ⟨(v - 1).toNat, by omega⟩
        have hsn := take_snoc hv
        have hB' : Hid (Blk (wr.setCell ⟨w.heap.size + 1, j, none⟩ (.int .i64 ((tal (l.take k) j : Int) + 1))) (w.heap.size + 1) 25 (talV (l.take (k + 1)))) := by
          have := hB.out.set_ j (.int .i64 ((tal (l.take k) j : Int) + 1))
          rw [talV_set _ _ (by omega)] at this
          unfold Hid
          rw [hsn]
          exact this
        have hB0' : Hid (Blk (wr.setCell ⟨w.heap.size + 1, j, none⟩ (.int .i64 ((tal (l.take k) j : Int) + 1))) w.heap.size 25 (talV [])) := hB0.out.far (by simp) _
        have hcc : wr.cell? ⟨w.heap.size + 1, j, none⟩ = some (.int .i64 (tal (l.take k) j)) := talV_cells hB.out j (by omega)
        have hf : wr.frozen? ⟨w.heap.size + 1, j, none⟩ = false := hB.out.frozen j
        have hle : tal (l.take k) j < n := by have := tal_le (l.take k) j; rw [List.length_take] at this; omega
        have hbel' : Hid (Below w.heap.size w (wr.setCell ⟨w.heap.size + 1, j, none⟩ (.int .i64 ((tal (l.take k) j : Int) + 1)))) := hbel.out.setCell (by simp) _
        clear hsn hx hv
        go_wp2
        go_roundw
        case rel => exact ⟨k + 1, by omega, by go_num, hB0', hB', hbel', hok'⟩
        case measure => simp [intOf]; omega
    · obtain rfl : k = n := by omega
      have htk : l.take k = l := List.take_of_length_le (by have := hlen.out; omega)
      have hok2 := Lib.hid (htk ▸ hok.out)
      have hB2 : Blk wr (w.heap.size + 1) 25 (talV l) := by have := hB.out; rw [htk] at this; exact this
      have c0 := talV_cells hB2 0 (by omega)
      have c1 := talV_cells hB2 1 (by omega)
      have c2 := talV_cells hB2 2 (by omega)
      have c3 := talV_cells hB2 3 (by omega)
      have c4 := talV_cells hB2 4 (by omega)
      have c5 := talV_cells hB2 5 (by omega)
      have d0 := talV_cells hB0.out 0 (by omega)
      have d1 := talV_cells hB0.out 1 (by omega)
      have d2 := talV_cells hB0.out 2 (by omega)
      have d3 := talV_cells hB0.out 3 (by omega)
      have d4 := talV_cells hB0.out 4 (by omega)
      have d5 := talV_cells hB0.out 5 (by omega)
      have f0 := hB0.out.frozen 0
      have f1 := hB0.out.frozen 1
      have f2 := hB0.out.frozen 2
      have f3 := hB0.out.frozen 3
      have f4 := hB0.out.frozen 4
      have f5 := hB0.out.frozen 5
      clear htk hB2
      go_wp2
      refine bodyPost_ret (v := .tuple #[.agg (talV l), .int .i64 0]) ?_ rfl ⟨fun _ => rfl, fun h => ?_, ?_⟩
      · simp [results, Tryd.results15, go_sem, talV, d0, d1, d2, d3, d4, d5]
      · rw [hok2.out] at h; cases h
      · exact (((((hbel.out.setCell (Nat.le_refl _) _).setCell (Nat.le_refl _) _).setCell (Nat.le_refl _) _).setCell (Nat.le_refl _) _).setCell (Nat.le_refl _) _).setCell (Nat.le_refl _) _

set_option maxHeartbeats 1000000 in
theorem reftally_any (l : List Int) (A : Option Addr) (n c : Nat) (w : World) (hr : Hid (Reads w w.heap.size 1 A n (ints l))) (hn : n ≤ 9223372036854775807) :
    Calls Tryd.prog 16 #[.slice A n c] w (TalEnd l w) := by
  have hlen : Hid (l.length = n) := by have := hr.out.1; unfold Hid; simpa [ints] using this
  go_enter Tryd.func16, Tryd.ntmps16
  go_wp2_with fail
  go_loopw [5] (fun i wr => ∃ k : Nat, k ≤ n ∧ i = .int .i64 k ∧ Hid (Blk wr w.heap.size 25 (talV [])) ∧ Hid (Blk wr (w.heap.size + 1) 25 (talV (l.take k))) ∧ Hid (Below w.heap.size w wr) ∧ Hid (okH (l.take k) = true)) (fun i _ => n - (intOf i).toNat)
  case atStart => exact ⟨0, by omega, rfl, (Blk.new w _ _).alloc _, Blk.new1 w _ _ (talV []), ((Below.refl _ _).alloc (Nat.le_refl _) _).alloc (by simp) _, rfl⟩
  case round =>
    obtain ⟨k, hk, rfl, hB0, hB, hbel, hok⟩ := hrel
    by_cases hlt : k < n
    · obtain ⟨ad, u, rfl, _, hx, hc⟩ := (hr.out.below hbel.out).at_ hlt
      obtain ⟨v, hv, rfl⟩ := ints_get l k hx
      rcases (by omega : v < 1 ∨ 6 < v ∨ (1 ≤ v ∧ v ≤ 6)) with h1 | h1 | ⟨v1, v2⟩
      · have hno := Lib.hid (okH_no hv (.inl h1))
        have d0 := talV_cells hB0.out 0 (by omega)
        have d1 := talV_cells hB0.out 1 (by omega)
        have d2 := talV_cells hB0.out 2 (by omega)
        have d3 := talV_cells hB0.out 3 (by omega)
        have d4 := talV_cells hB0.out 4 (by omega)
        have d5 := talV_cells hB0.out 5 (by omega)
        have f0 := hB0.out.frozen 0
        have f1 := hB0.out.frozen 1
        have f2 := hB0.out.frozen 2
        have f3 := hB0.out.frozen 3
        have f4 := hB0.out.frozen 4
        have f5 := hB0.out.frozen 5
        clear hx hv
        go_wp2
        refine bodyPost_ret (v := .tuple #[.agg (talV []), .int .i64 3]) ?_ rfl ⟨fun h => ?_, fun _ => rfl, ?_⟩
        · simp [results, Tryd.results16, go_sem, talV, d0, d1, d2, d3, d4, d5, tal_nil]
        · rw [hno.out] at h; cases h
        · exact (((((hbel.out.setCell (Nat.le_refl _) _).setCell (Nat.le_refl _) _).setCell (Nat.le_refl _) _).setCell (Nat.le_refl _) _).setCell (Nat.le_refl _) _).setCell (Nat.le_refl _) _
      · have hno := Lib.hid (okH_no hv (.inr h1))
        have d0 := talV_cells hB0.out 0 (by omega)
        have d1 := talV_cells hB0.out 1 (by omega)
        have d2 := talV_cells hB0.out 2 (by omega)
        have d3 := talV_cells hB0.out 3 (by omega)
        have d4 := talV_cells hB0.out 4 (by omega)
        have d5 := talV_cells hB0.out 5 (by omega)
        have f0 := hB0.out.frozen 0
        have f1 := hB0.out.frozen 1
        have f2 := hB0.out.frozen 2
        have f3 := hB0.out.frozen 3
        have f4 := hB0.out.frozen 4
        have f5 := hB0.out.frozen 5
        clear hx hv
        go_wp2
        refine bodyPost_ret (v := .tuple #[.agg (talV []), .int .i64 3]) ?_ rfl ⟨fun h => ?_, fun _ => rfl, ?_⟩
        · simp [results, Tryd.results16, go_sem, talV, d0, d1, d2, d3, d4, d5, tal_nil]
        · rw [hno.out] at h; cases h
        · exact (((((hbel.out.setCell (Nat.le_refl _) _).setCell (Nat.le_refl _) _).setCell (Nat.le_refl _) _).setCell (Nat.le_refl _) _).setCell (Nat.le_refl _) _).setCell (Nat.le_refl _) _
      · have hok' := Lib.hid (okH_snoc hok.out hv v1 v2)
        obtain ⟨j, rfl⟩ : ∃ j : Nat, v = (j : Int) + 1 := ⟨(v - 1).toNat, by omega⟩
        have hsn := take_snoc hv
        have hB' : Hid (Blk (wr.setCell ⟨w.heap.size + 1, j, none⟩ (.int .i64 ((tal (l.take k) j : Int) + 1))) (w.heap.size + 1) 25 (talV (l.take (k + 1)))) := by
          have := hB.out.set_ j (.int .i64 ((tal (l.take k) j : Int) + 1))
          rw [talV_set _ _ (by omega)] at this
          unfold Hid
          rw [hsn]
          exact this
        have hB0' : Hid (Blk (wr.setCell ⟨w.heap.size + 1, j, none⟩ (.int .i64 ((tal (l.take k) j : Int) + 1))) w.heap.size 25 (talV [])) := hB0.out.far (by simp) _
        have hcc : wr.cell? ⟨w.heap.size + 1, j, none⟩ = some (.int .i64 (tal (l.take k) j)) := talV_cells hB.out j (by omega)
        have hf : wr.frozen? ⟨w.heap.size + 1, j, none⟩ = false := hB.out.frozen j
        have hle : tal (l.take k) j < n := by have := tal_le (l.take k) j; rw [List.length_take] at this; omega
        have hbel' : Hid (Below w.heap.size w (wr.setCell ⟨w.heap.size + 1, j, none⟩ (.int .i64 ((tal (l.take k) j : Int) + 1)))) := hbel.out.setCell (by simp) _
        clear hsn hx hv
        go_wp2
        go_roundw
        case rel => exact ⟨k + 1, by omega, by go_num, hB0', hB', hbel', hok'⟩
        case measure => simp [intOf]; omega
    · obtain rfl : k = n := by omega
      have htk : l.take k = l := List.take_of_length_le (by have := hlen.out; omega)
      have hok2 := Lib.hid (htk ▸ hok.out)
      have hB2 : Blk wr (w.heap.size + 1) 25 (talV l) := by have := hB.out; rw [htk] at this; exact this
      have c0 := talV_cells hB2 0 (by omega)
      have c1 := talV_cells hB2 1 (by omega)
      have c2 := talV_cells hB2 2 (by omega)
      have c3 := talV_cells hB2 3 (by omega)
      have c4 := talV_cells hB2 4 (by omega)
      have c5 := talV_cells hB2 5 (by omega)
      have d0 := talV_cells hB0.out 0 (by omega)
      have d1 := talV_cells hB0.out 1 (by omega)
      have d2 := talV_cells hB0.out 2 (by omega)
      have d3 := talV_cells hB0.out 3 (by omega)
      have d4 := talV_cells hB0.out 4 (by omega)
      have d5 := talV_cells hB0.out 5 (by omega)
      have f0 := hB0.out.frozen 0
      have f1 := hB0.out.frozen 1
      have f2 := hB0.out.frozen 2
      have f3 := hB0.out.frozen 3
      have f4 := hB0.out.frozen 4
      have f5 := hB0.out.frozen 5
      clear htk hB2
      go_wp2
      refine bodyPost_ret (v := .tuple #[.agg (talV l), .int .i64 0]) ?_ rfl ⟨fun _ => rfl, fun h => ?_, ?_⟩
      · simp [results, Tryd.results16, go_sem, talV, d0, d1, d2, d3, d4, d5]
      · rw [hok2.out] at h; cases h
      · exact (((((hbel.out.setCell (Nat.le_refl _) _).setCell (Nat.le_refl _) _).setCell (Nat.le_refl _) _).setCell (Nat.le_refl _) _).setCell (Nat.le_refl _) _).setCell (Nat.le_refl _) _
end Go.Proofs.YtmokfjlkfhopnaaDoor
