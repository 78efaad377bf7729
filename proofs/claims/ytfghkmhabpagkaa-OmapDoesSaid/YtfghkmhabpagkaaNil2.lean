/- Nil maps, and Next of an invalid range, of both maps; the reference's Next (printed by gen_nil2.py). -/
import Derived.Test.YtfghkmhabpagkaaONil
import Derived.Test.YtfghkmhabpagkaaONext
import Derived.Test.YtfghkmhabpagkaaRMeth2
namespace Go.Proofs.Ytfghkmhabpagkaa
open Go Go.RowKit
set_option linter.unusedVariables false

set_option maxRecDepth 100000 in
theorem pif_nil (k v : Int) (w : World) : Calls Try.prog 30 #[.pointer none, .int .u64 k, .int .u64 v] w fun e w' => e = .returned (.tuple #[.int .u64 0, .bool false, .int .i64 1]) ∧ Below w.heap.size w w' := by
  have hb : Below w.heap.size w w := Below.refl _ _
  go_enter Try.func30, Try.ntmps30
  go_wp2_with fail
  go_ret3
  exact ⟨rfl, hb⟩
set_option maxRecDepth 100000 in
theorem del_nil (k : Int) (w : World) : Calls Try.prog 31 #[.pointer none, .int .u64 k] w fun e w' => e = .returned (.tuple #[.int .u64 0, .bool false, .int .i64 1]) ∧ Below w.heap.size w w' := by
  have hb : Below w.heap.size w w := Below.refl _ _
  go_enter Try.func31, Try.ntmps31
  go_wp2_with fail
  go_ret3
  exact ⟨rfl, hb⟩
set_option maxRecDepth 100000 in
theorem cas_nil (k o v : Int) (w : World) : Calls Try.prog 32 #[.pointer none, .int .u64 k, .int .u64 o, .int .u64 v] w fun e w' => e = .returned (.tuple #[.int .u64 0, .bool false, .bool false, .int .i64 1]) ∧ Below w.heap.size w w' := by
  have hb : Below w.heap.size w w := Below.refl _ _
  go_enter Try.func32, Try.ntmps32
  go_wp2_with fail
  refine bodyPost_ret (results_tmp4 rfl _ _ _) rfl ?_
  exact ⟨rfl, hb⟩
set_option maxRecDepth 100000 in
theorem delR_nil (lo hi : Int) (w : World) : Calls Try.prog 27 #[.pointer none, .agg #[.int .u64 lo, .int .u64 hi]] w fun e w' => e = .returned (.tuple #[.int .i64 0, .int .i64 1]) ∧ Below w.heap.size w w' := by
  have hb0 : Hid (Below w.heap.size w (w.alloc (.cells #[.int .u64 lo, .int .u64 hi] 25))) := (Below.refl _ _).alloc (Nat.le_refl _) _
  have hc := ends_nil lo hi (w.alloc (.cells #[.int .u64 lo, .int .u64 hi] 25))
  go_enter Try.func27, Try.ntmps27
  go_wp2_with fail
  refine hc.mono ?_
  rintro e w1 ⟨rfl, hb⟩
  have hb1 := below_on hb0 hb
  clear hc hb hb0
  go_wp2_with fail
  go_ret2
  exact ⟨rfl, hb1.out⟩
set_option maxRecDepth 100000 in
theorem rget_nil (k : Int) (w : World) : Calls Try.prog 44 #[.pointer none, .int .u64 k] w fun e w' => e = .returned (.tuple #[.int .u64 0, .bool false]) ∧ Below w.heap.size w w' := by
  have hb : Below w.heap.size w w := Below.refl _ _
  go_enter Try.func44, Try.ntmps44
  go_wp2_with fail
  go_ret2
  exact ⟨rfl, hb⟩
set_option maxRecDepth 100000 in
theorem rput_nil (k v : Int) (w : World) : Calls Try.prog 45 #[.pointer none, .int .u64 k, .int .u64 v] w fun e w' => e = .returned (.tuple #[.int .u64 0, .bool false, .int .i64 1]) ∧ Below w.heap.size w w' := by
  have hb : Below w.heap.size w w := Below.refl _ _
  go_enter Try.func45, Try.ntmps45
  go_wp2_with fail
  go_ret3
  exact ⟨rfl, hb⟩
set_option maxRecDepth 100000 in
theorem rpif_nil (k v : Int) (w : World) : Calls Try.prog 46 #[.pointer none, .int .u64 k, .int .u64 v] w fun e w' => e = .returned (.tuple #[.int .u64 0, .bool false, .int .i64 1]) ∧ Below w.heap.size w w' := by
  have hb : Below w.heap.size w w := Below.refl _ _
  go_enter Try.func46, Try.ntmps46
  go_wp2_with fail
  go_ret3
  exact ⟨rfl, hb⟩
set_option maxRecDepth 100000 in
theorem rdel_nil (k : Int) (w : World) : Calls Try.prog 47 #[.pointer none, .int .u64 k] w fun e w' => e = .returned (.tuple #[.int .u64 0, .bool false, .int .i64 1]) ∧ Below w.heap.size w w' := by
  have hb : Below w.heap.size w w := Below.refl _ _
  go_enter Try.func47, Try.ntmps47
  go_wp2_with fail
  go_ret3
  exact ⟨rfl, hb⟩
set_option maxRecDepth 100000 in
theorem rcas_nil (k o v : Int) (w : World) : Calls Try.prog 48 #[.pointer none, .int .u64 k, .int .u64 o, .int .u64 v] w fun e w' => e = .returned (.tuple #[.int .u64 0, .bool false, .bool false, .int .i64 1]) ∧ Below w.heap.size w w' := by
  have hb : Below w.heap.size w w := Below.refl _ _
  go_enter Try.func48, Try.ntmps48
  go_wp2_with fail
  refine bodyPost_ret (results_tmp4 rfl _ _ _) rfl ?_
  exact ⟨rfl, hb⟩
set_option maxRecDepth 100000 in
theorem rmove_nil (lo hi by_ : Int) (w : World) : Calls Try.prog 49 #[.pointer none, .agg #[.int .u64 lo, .int .u64 hi], .int .u64 by_] w fun e w' => e = .returned (.tuple #[.int .i64 0, .int .i64 1]) ∧ Below w.heap.size w w' := by
  have hb : Below w.heap.size w (w.alloc (.cells #[.int .u64 lo, .int .u64 hi] 25)) := (Below.refl _ _).alloc (Nat.le_refl _) _
  go_enter Try.func49, Try.ntmps49
  go_wp2_with fail
  go_ret2
  exact ⟨rfl, hb⟩
set_option maxRecDepth 100000 in
theorem rdelR_nil (lo hi : Int) (w : World) : Calls Try.prog 50 #[.pointer none, .agg #[.int .u64 lo, .int .u64 hi]] w fun e w' => e = .returned (.tuple #[.int .i64 0, .int .i64 1]) ∧ Below w.heap.size w w' := by
  have hb : Below w.heap.size w (w.alloc (.cells #[.int .u64 lo, .int .u64 hi] 25)) := (Below.refl _ _).alloc (Nat.le_refl _) _
  go_enter Try.func50, Try.ntmps50
  go_wp2_with fail
  go_ret2
  exact ⟨rfl, hb⟩
set_option maxRecDepth 100000 in
set_option maxHeartbeats 1000000 in
theorem next_nil (lo hi : Int) (w : World) : Calls Try.prog 26 #[.pointer none, .agg #[.int .u64 lo, .int .u64 hi]] w fun e w' => e = .returned (.tuple #[.agg (pC none), .bool false, .int .i64 1]) ∧ Below w.heap.size w w' := by
  obtain ⟨W, hW⟩ : ∃ W, (w.alloc (.cells #[.int .u64 lo, .int .u64 hi] 25)).alloc (.cells #[.int .u64 0, .int .u64 0] 38) = W := ⟨_, rfl⟩
  have hb0 : Hid (Below w.heap.size w W) := by rw [← hW]; exact ((Below.refl _ _).alloc (Nat.le_refl _) _).alloc (by simp) _
  have hBp : Hid (Blk W (w.heap.size + 1) 38 #[.int .u64 0, .int .u64 0]) := by rw [← hW]; exact Blk.new1 w _ _ _
  have hBs : Blk W w.heap.size 25 #[.int .u64 lo, .int .u64 hi] := by rw [← hW]; exact (Blk.new w _ _).alloc _
  have hs0 : W.cell? ⟨w.heap.size, 0, none⟩ = some (.int .u64 lo) := by simpa using hBs.cell 0
  have hs1 : W.cell? ⟨w.heap.size, 1, none⟩ = some (.int .u64 hi) := by simpa using hBs.cell 1
  have hc := ends_nil lo hi W
  clear hBs
  go_enter Try.func26, Try.ntmps26
  go_wp2_with fail
  refine hc.mono ?_
  rintro e w1 ⟨rfl, hb⟩
  have hb1 := below_on hb0 hb
  have hB1 := Lib.hid (hBp.out.below hb hBp.out.lt)
  have q0 := hB1.out.cell 0
  have q1 := hB1.out.cell 1
  have f0 := hB1.out.frozen 0
  have f1 := hB1.out.frozen 1
  simp only [List.getElem?_toArray, List.getElem?_cons_zero, List.getElem?_cons_succ] at q0 q1
  have hbe : Hid (Below w.heap.size w ((w1.setCell ⟨w.heap.size + 1, 0, none⟩ (.int .u64 0)).setCell ⟨w.heap.size + 1, 1, none⟩ (.int .u64 0))) := (hb1.out.setCell (p := ⟨w.heap.size + 1, 0, none⟩) (by show w.heap.size ≤ w.heap.size + 1; omega) _).setCell (p := ⟨w.heap.size + 1, 1, none⟩) (by show w.heap.size ≤ w.heap.size + 1; omega) _
  clear hc hb hW hs0 hs1
  go_wp2_with fail
  refine bodyPost_ret (results_cell3 rfl _ _ (w.heap.size + 1) 38 _ (0, 0) _ rfl (set2P hB1.out) Try.underlying38 rfl (by kernel_rfl)) rfl ?_
  exact ⟨rfl, hbe.out⟩
set_option maxRecDepth 100000 in
set_option maxHeartbeats 1000000 in
theorem next_no (g : Nat) (lo hi : Int) (w : World) (h : hi < lo) : Calls Try.prog 26 #[.pointer (some ⟨g, 0, none⟩), .agg #[.int .u64 lo, .int .u64 hi]] w fun e w' => e = .returned (.tuple #[.agg (pC none), .bool false, .int .i64 13]) ∧ Below w.heap.size w w' := by
  obtain ⟨W, hW⟩ : ∃ W, (w.alloc (.cells #[.int .u64 lo, .int .u64 hi] 25)).alloc (.cells #[.int .u64 0, .int .u64 0] 38) = W := ⟨_, rfl⟩
  have hb0 : Hid (Below w.heap.size w W) := by rw [← hW]; exact ((Below.refl _ _).alloc (Nat.le_refl _) _).alloc (by simp) _
  have hBp : Hid (Blk W (w.heap.size + 1) 38 #[.int .u64 0, .int .u64 0]) := by rw [← hW]; exact Blk.new1 w _ _ _
  have hBs : Blk W w.heap.size 25 #[.int .u64 lo, .int .u64 hi] := by rw [← hW]; exact (Blk.new w _ _).alloc _
  have hs0 : W.cell? ⟨w.heap.size, 0, none⟩ = some (.int .u64 lo) := by simpa using hBs.cell 0
  have hs1 : W.cell? ⟨w.heap.size, 1, none⟩ = some (.int .u64 hi) := by simpa using hBs.cell 1
  have hc := ends_no g lo hi W h
  clear hBs
  go_enter Try.func26, Try.ntmps26
  go_wp2_with fail
  refine hc.mono ?_
  rintro e w1 ⟨rfl, hb⟩
  have hb1 := below_on hb0 hb
  have hB1 := Lib.hid (hBp.out.below hb hBp.out.lt)
  have q0 := hB1.out.cell 0
  have q1 := hB1.out.cell 1
  have f0 := hB1.out.frozen 0
  have f1 := hB1.out.frozen 1
  simp only [List.getElem?_toArray, List.getElem?_cons_zero, List.getElem?_cons_succ] at q0 q1
  have hbe : Hid (Below w.heap.size w ((w1.setCell ⟨w.heap.size + 1, 0, none⟩ (.int .u64 0)).setCell ⟨w.heap.size + 1, 1, none⟩ (.int .u64 0))) := (hb1.out.setCell (p := ⟨w.heap.size + 1, 0, none⟩) (by show w.heap.size ≤ w.heap.size + 1; omega) _).setCell (p := ⟨w.heap.size + 1, 1, none⟩) (by show w.heap.size ≤ w.heap.size + 1; omega) _
  clear hc hb hW hs0 hs1
  go_wp2_with fail
  refine bodyPost_ret (results_cell3 rfl _ _ (w.heap.size + 1) 38 _ (0, 0) _ rfl (set2P hB1.out) Try.underlying38 rfl (by kernel_rfl)) rfl ?_
  exact ⟨rfl, hbe.out⟩
set_option maxRecDepth 100000 in
set_option maxHeartbeats 1000000 in
theorem rnext_nil (lo hi : Int) (w : World) : Calls Try.prog 51 #[.pointer none, .agg #[.int .u64 lo, .int .u64 hi]] w fun e w' => e = .returned (.tuple #[.agg (pC none), .bool false, .int .i64 1]) ∧ Below w.heap.size w w' := by
  obtain ⟨W, hW⟩ : ∃ W, (w.alloc (.cells #[.int .u64 lo, .int .u64 hi] 25)).alloc (.cells #[.int .u64 0, .int .u64 0] 38) = W := ⟨_, rfl⟩
  have hb0 : Hid (Below w.heap.size w W) := by rw [← hW]; exact ((Below.refl _ _).alloc (Nat.le_refl _) _).alloc (by simp) _
  have hBp : Hid (Blk W (w.heap.size + 1) 38 #[.int .u64 0, .int .u64 0]) := by rw [← hW]; exact Blk.new1 w _ _ _
  have hBs : Blk W w.heap.size 25 #[.int .u64 lo, .int .u64 hi] := by rw [← hW]; exact (Blk.new w _ _).alloc _
  have hs0 : W.cell? ⟨w.heap.size, 0, none⟩ = some (.int .u64 lo) := by simpa using hBs.cell 0
  have hs1 : W.cell? ⟨w.heap.size, 1, none⟩ = some (.int .u64 hi) := by simpa using hBs.cell 1
  have hc := rrange_nil lo hi W
  clear hBs
  go_enter Try.func51, Try.ntmps51
  go_wp2_with fail
  refine hc.mono ?_
  rintro e w1 ⟨rfl, hb⟩
  have hb1 := below_on hb0 hb
  have hB1 := Lib.hid (hBp.out.below hb hBp.out.lt)
  have q0 := hB1.out.cell 0
  have q1 := hB1.out.cell 1
  have f0 := hB1.out.frozen 0
  have f1 := hB1.out.frozen 1
  simp only [List.getElem?_toArray, List.getElem?_cons_zero, List.getElem?_cons_succ] at q0 q1
  have hbe : Hid (Below w.heap.size w ((w1.setCell ⟨w.heap.size + 1, 0, none⟩ (.int .u64 0)).setCell ⟨w.heap.size + 1, 1, none⟩ (.int .u64 0))) := (hb1.out.setCell (p := ⟨w.heap.size + 1, 0, none⟩) (by show w.heap.size ≤ w.heap.size + 1; omega) _).setCell (p := ⟨w.heap.size + 1, 1, none⟩) (by show w.heap.size ≤ w.heap.size + 1; omega) _
  clear hc hb hW hs0 hs1
  go_wp2_with fail
  refine bodyPost_ret (results_cell3 rfl _ _ (w.heap.size + 1) 38 _ (0, 0) _ rfl (set2P hB1.out) Try.underlying38 rfl (by kernel_rfl)) rfl ?_
  exact ⟨rfl, hbe.out⟩
set_option maxRecDepth 100000 in
set_option maxHeartbeats 1000000 in
theorem rnext_no (g : Nat) (lo hi : Int) (w : World) (h : hi < lo) : Calls Try.prog 51 #[.pointer (some ⟨g, 0, none⟩), .agg #[.int .u64 lo, .int .u64 hi]] w fun e w' => e = .returned (.tuple #[.agg (pC none), .bool false, .int .i64 13]) ∧ Below w.heap.size w w' := by
  obtain ⟨W, hW⟩ : ∃ W, (w.alloc (.cells #[.int .u64 lo, .int .u64 hi] 25)).alloc (.cells #[.int .u64 0, .int .u64 0] 38) = W := ⟨_, rfl⟩
  have hb0 : Hid (Below w.heap.size w W) := by rw [← hW]; exact ((Below.refl _ _).alloc (Nat.le_refl _) _).alloc (by simp) _
  have hBp : Hid (Blk W (w.heap.size + 1) 38 #[.int .u64 0, .int .u64 0]) := by rw [← hW]; exact Blk.new1 w _ _ _
  have hBs : Blk W w.heap.size 25 #[.int .u64 lo, .int .u64 hi] := by rw [← hW]; exact (Blk.new w _ _).alloc _
  have hs0 : W.cell? ⟨w.heap.size, 0, none⟩ = some (.int .u64 lo) := by simpa using hBs.cell 0
  have hs1 : W.cell? ⟨w.heap.size, 1, none⟩ = some (.int .u64 hi) := by simpa using hBs.cell 1
  have hc := rrange_no g lo hi W h
  clear hBs
  go_enter Try.func51, Try.ntmps51
  go_wp2_with fail
  refine hc.mono ?_
  rintro e w1 ⟨rfl, hb⟩
  have hb1 := below_on hb0 hb
  have hB1 := Lib.hid (hBp.out.below hb hBp.out.lt)
  have q0 := hB1.out.cell 0
  have q1 := hB1.out.cell 1
  have f0 := hB1.out.frozen 0
  have f1 := hB1.out.frozen 1
  simp only [List.getElem?_toArray, List.getElem?_cons_zero, List.getElem?_cons_succ] at q0 q1
  have hbe : Hid (Below w.heap.size w ((w1.setCell ⟨w.heap.size + 1, 0, none⟩ (.int .u64 0)).setCell ⟨w.heap.size + 1, 1, none⟩ (.int .u64 0))) := (hb1.out.setCell (p := ⟨w.heap.size + 1, 0, none⟩) (by show w.heap.size ≤ w.heap.size + 1; omega) _).setCell (p := ⟨w.heap.size + 1, 1, none⟩) (by show w.heap.size ≤ w.heap.size + 1; omega) _
  clear hc hb hW hs0 hs1
  go_wp2_with fail
  refine bodyPost_ret (results_cell3 rfl _ _ (w.heap.size + 1) 38 _ (0, 0) _ rfl (set2P hB1.out) Try.underlying38 rfl (by kernel_rfl)) rfl ?_
  exact ⟨rfl, hbe.out⟩
set_option maxRecDepth 100000 in
set_option maxHeartbeats 4000000 in
theorem rnext_any (l : List Pr) (g : Nat) (lo hi : Int) (w : World) (hm : Hid (IsM w g l)) (hl : l.length ≤ 900000) (h : lo ≤ hi) : Calls Try.prog 51 #[.pointer (some ⟨g, 0, none⟩), .agg #[.int .u64 lo, .int .u64 hi]] w fun e w' => e = .returned (.tuple #[.agg (pC (inR lo hi l).head?), .bool (inR lo hi l).head?.isSome, .int .i64 0]) ∧ Below w.heap.size w w' := by
  obtain ⟨W, hW⟩ : ∃ W, (w.alloc (.cells #[.int .u64 lo, .int .u64 hi] 25)).alloc (.cells #[.int .u64 0, .int .u64 0] 38) = W := ⟨_, rfl⟩
  have hb0 : Hid (Below w.heap.size w W) := by rw [← hW]; exact ((Below.refl _ _).alloc (Nat.le_refl _) _).alloc (by simp) _
  have hBp : Hid (Blk W (w.heap.size + 1) 38 #[.int .u64 0, .int .u64 0]) := by rw [← hW]; exact Blk.new1 w _ _ _
  have hBs : Blk W w.heap.size 25 #[.int .u64 lo, .int .u64 hi] := by rw [← hW]; exact (Blk.new w _ _).alloc _
  have hs0 : W.cell? ⟨w.heap.size, 0, none⟩ = some (.int .u64 lo) := by simpa using hBs.cell 0
  have hs1 : W.cell? ⟨w.heap.size, 1, none⟩ = some (.int .u64 hi) := by simpa using hBs.cell 1
  have hc := rrange_any l g lo hi W (Lib.hid (hm.out.below hb0.out)) hl h
  clear hBs
  obtain ⟨ms, hms⟩ : ∃ ms, inR lo hi l = ms := ⟨_, rfl⟩
  have hmsl : Hid (ms.length ≤ 900000) := by unfold Hid; rw [← hms]; have h1 : (inR lo hi l).length ≤ l.length := List.length_filter_le _ _; omega
  rw [hms] at hc ⊢
  clear hms
  obtain ⟨L, hL⟩ : ∃ L, ms.length = L := ⟨_, rfl⟩
  rw [hL] at hc hmsl
  have hLh := Lib.hid hL
  clear hL
  go_enter Try.func51, Try.ntmps51
  go_wp2_with fail
  refine hc.mono ?_
  rintro e w1 ⟨A, c, rfl, hown, hb⟩
  have hb1 := below_on hb0 hb
  have hB1 := Lib.hid (hBp.out.below hb hBp.out.lt)
  have hr1 : Hid (Reads w1 w1.heap.size 2 A L (prs ms)) := Reads.of_own hown
  have q0 := hB1.out.cell 0
  have q1 := hB1.out.cell 1
  have f0 := hB1.out.frozen 0
  have f1 := hB1.out.frozen 1
  simp only [List.getElem?_toArray, List.getElem?_cons_zero, List.getElem?_cons_succ] at q0 q1
  cases ms with
  | nil =>
    obtain rfl : L = 0 := by have := hLh.out; simpa using this.symm
    have hbe : Hid (Below w.heap.size w ((w1.setCell ⟨w.heap.size + 1, 0, none⟩ (.int .u64 0)).setCell ⟨w.heap.size + 1, 1, none⟩ (.int .u64 0))) := (hb1.out.setCell (p := ⟨w.heap.size + 1, 0, none⟩) (by show w.heap.size ≤ w.heap.size + 1; omega) _).setCell (p := ⟨w.heap.size + 1, 1, none⟩) (by show w.heap.size ≤ w.heap.size + 1; omega) _
    clear hc hb hW hs0 hs1 hown hr1
    go_wp2_with fail
    refine bodyPost_ret (results_cell3 rfl _ _ (w.heap.size + 1) 38 _ (0, 0) _ rfl (set2P hB1.out) Try.underlying38 rfl (by kernel_rfl)) rfl ?_
    exact ⟨rfl, hbe.out⟩
  | cons x xs =>
    have hL0 : 0 < L := by have := hLh.out; simp at this; omega
    obtain ⟨b, o, rfl, hbB⟩ := reads_head hr1.out hL0 (by decide)
    obtain ⟨x', hx, p0, p1⟩ := prs_at hr1.out hL0
    obtain rfl : x = x' := by simpa using hx
    obtain ⟨pk, pv⟩ := x
    dsimp only at p0 p1
    simp only [Nat.zero_mul, Nat.add_zero] at p0 p1
    have e1 : ((L : Int) == 0) = false := by simp; omega
    have e2 : (0 : Int) < (L : Int) := by omega
    have hbe : Hid (Below w.heap.size w ((w1.setCell ⟨w.heap.size + 1, 0, none⟩ (.int .u64 pk)).setCell ⟨w.heap.size + 1, 1, none⟩ (.int .u64 pv))) := (hb1.out.setCell (p := ⟨w.heap.size + 1, 0, none⟩) (by show w.heap.size ≤ w.heap.size + 1; omega) _).setCell (p := ⟨w.heap.size + 1, 1, none⟩) (by show w.heap.size ≤ w.heap.size + 1; omega) _
    clear hc hb hW hs0 hs1 hown hr1 hx
    go_wp2_with fail
    refine bodyPost_ret (results_cell3 rfl _ _ (w.heap.size + 1) 38 _ (0, 0) _ rfl (set2P hB1.out) Try.underlying38 rfl (by kernel_rfl)) rfl ?_
    exact ⟨rfl, hbe.out⟩
end Go.Proofs.Ytfghkmhabpagkaa
