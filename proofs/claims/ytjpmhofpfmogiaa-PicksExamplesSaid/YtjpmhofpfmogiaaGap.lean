/- picks.Gap walked: a loop over the iterator that keeps two numbers. -/
import Derived.Test.YtjpmhofpfmogiaaCounts
namespace Go.Proofs.Ytjpmhofpfmogiaa
open Go Go.RowKit Go.Shelf
set_option linter.unusedVariables false
attribute [local go_sem] Oper.semAt_some

set_option maxHeartbeats 1000000 in
theorem gap_err (F : Fence) (n : Nat) (hF : F.fn 18) (h32 : F.fn 32) (hro : F.round = none) (hn : 1 ≤ n) (t a : Int) (A : Option Addr) (len cap : Nat) (w : World) (er : Int) (hc : chk t a len = er) (h0 : er = 2 ∨ er = 5) :
    CallsIn F n Try.prog 18 #[.int .i64 t, .int .i64 a, .slice A len cap] w fun e w' => e = .returned (.tuple #[.int .i64 0, .int .i64 er]) ∧ Below w.heap.size w w' := by
  have hb := (Below.refl w.heap.size w).alloc (Nat.le_refl _) (.cells #[.int .i64 a] 3)
  rcases h0 with rfl | rfl
  all_goals
    refine callsIn_of_wp Try.func18 rfl hF ?_ hro
    simp only [Try.ntmps18, List.size_toArray, List.length_cons, List.length_nil, Nat.reduceAdd, Nat.reduceSub, Array.replicate_succ, Array.replicate_zero, List.push_toArray, List.append_toArray, List.nil_append, List.cons_append]
    gi_wp2_with (gi_at_call 32; refine (check_in F (n - 1) h32 hro t a len _).mono ?_; rintro e w' ⟨rfl, rfl⟩; rw [hc])
    go_ret2
    exact ⟨rfl, hb⟩

theorem boxed_far {W : World} {g g' : Nat} {t : TypeId} {u v : Value} (h : Boxed W g t u) (hne : g ≠ g') : Boxed (W.setCell ⟨g', 0, none⟩ v) g t u := Blk.far (g := g) (t := t) (cs := #[u]) h hne v

set_option maxRecDepth 100000 in
set_option maxHeartbeats 4000000 in
theorem gap_ok (F : Fence) (n : Nat) (hF : F.fn 18) (h32 : F.fn 32) (h33 : F.fn 33) (h42 : F.fn 42) (h36 : F.fn 36) (hro : F.round = none) (hn : 3 ≤ n)
    (T : Nat) (h1 : 1 ≤ T) (h2 : T ≤ 64) (a : Int) (ha0 : 0 ≤ a) (ha1 : a < T) (l : List Int) (A : Option Addr) (len cap : Nat) (w : World) (hr : Hid (Reads w w.heap.size 1 A len (ints l))) (hlen : len ≤ 65536) :
    CallsIn F n Try.prog 18 #[.int .i64 (T : Int), .int .i64 a, .slice A len cap] w fun e w' => e = .returned (.tuple #[.int .i64 ((gapR a (chl T l)).1 : Int), .int .i64 0]) ∧ Below w.heap.size w w' := by
  have hl : Hid (l.length = len) := by have := hr.out.1; rw [ints_len] at this; unfold Hid; omega
  have hc : chk T a len = 0 := by unfold chk; rw [if_neg (by omega), if_neg (by omega)]
  have h1' : 1 ≤ n := by omega
  refine callsIn_of_wp_marks Try.func18 rfl hF ?_ hro
  simp only [Try.ntmps18, List.size_toArray, List.length_cons, List.length_nil, Nat.reduceAdd, Nat.reduceSub, Array.replicate_succ, Array.replicate_zero, List.push_toArray, List.append_toArray, List.nil_append, List.cons_append]
  gi_wp2_with (first
    | (gi_at_call 32; refine (check_in F (n - 1) h32 hro T a len _).mono ?_; rintro e w' ⟨rfl, rfl⟩; rw [hc])
    | (gi_at_call 33; refine (chosen_in F (n - 1) h33 hro T A len cap _).mono ?_; rintro e w' ⟨rfl, rfl⟩))
  have hB0 : Below w.heap.size w (((((w.alloc (.cells #[.int .i64 a] 3)).alloc (.cells #[.int .i64 0] 3)).alloc (.cells #[.int .i64 0] 3)).alloc (.cells #[.int .i64 (T : Int)] 3)).alloc (.cells #[.slice A len cap] 22)) :=
    (((((Below.refl _ w).alloc (Nat.le_refl _) _).alloc (by first | (simp; omega) | simp | omega) _).alloc (by first | (simp; omega) | simp | omega) _).alloc (by first | (simp; omega) | simp | omega) _).alloc (by first | (simp; omega) | simp | omega) _
  have bA := ((((Boxed.new w 3 (.int .i64 a)).alloc (.cells #[.int .i64 0] 3)).alloc (.cells #[.int .i64 0] 3)).alloc (.cells #[.int .i64 (T : Int)] 3)).alloc (.cells #[.slice A len cap] 22)
  have bG := (((Boxed.new (w.alloc (.cells #[.int .i64 a] 3)) 3 (.int .i64 0)).alloc (.cells #[.int .i64 0] 3)).alloc (.cells #[.int .i64 (T : Int)] 3)).alloc (.cells #[.slice A len cap] 22)
  have bR := ((Boxed.new ((w.alloc (.cells #[.int .i64 a] 3)).alloc (.cells #[.int .i64 0] 3)) 3 (.int .i64 0)).alloc (.cells #[.int .i64 (T : Int)] 3)).alloc (.cells #[.slice A len cap] 22)
  have bT := (Boxed.new (((w.alloc (.cells #[.int .i64 a] 3)).alloc (.cells #[.int .i64 0] 3)).alloc (.cells #[.int .i64 0] 3)) 3 (.int .i64 (T : Int))).alloc (.cells #[.slice A len cap] 22)
  have bS := Boxed.new ((((w.alloc (.cells #[.int .i64 a] 3)).alloc (.cells #[.int .i64 0] 3)).alloc (.cells #[.int .i64 0] 3)).alloc (.cells #[.int .i64 (T : Int)] 3)) 22 (.slice A len cap)
  simp only [World.size_alloc] at bG bR bT bS
  obtain ⟨W0, hW0⟩ : ∃ W0, (((((w.alloc (.cells #[.int .i64 a] 3)).alloc (.cells #[.int .i64 0] 3)).alloc (.cells #[.int .i64 0] 3)).alloc (.cells #[.int .i64 (T : Int)] 3)).alloc (.cells #[.slice A len cap] 22)) = W0 := ⟨_, rfl⟩
  have hsz : W0.heap.size = w.heap.size + 1 + 1 + 1 + 1 + 1 := by rw [← hW0]; simp
  rw [hW0] at hB0 bA bG bR bT bS ⊢
  clear hW0
  refine wpIn_rangeFunc_ownG hro h1' (gf := 42) (lb := #[.pointer (some ⟨w.heap.size + 1 + 1 + 1 + 1, 0, none⟩), .pointer (some ⟨w.heap.size + 1 + 1 + 1, 0, none⟩)]) rfl h42 (enters_of Try.func42 (by kernel_rfl) rfl)
    (iter_stops F (n - 1) h42 h36 hro (by omega) (w.heap.size + 1 + 1 + 1 + 1) (w.heap.size + 1 + 1 + 1) w.heap.size A len cap l T (by omega) (by omega) hlen _ (by omega) (by omega) hB0.size bS.cell bT.cell (hr.out.below hB0)) kept_t (kept_b hB0.size (by omega)) (Below.refl _ _) (fun _ => rfl)
    (fun pre W => (Boxed W w.heap.size 3 (.int .i64 a) ∧ Boxed W (w.heap.size + 1) 3 (.int .i64 ((gapR a (fins pre)).1 : Int)) ∧ Boxed W (w.heap.size + 1 + 1) 3 (.int .i64 ((gapR a (fins pre)).2 : Int))) ∧ Below w.heap.size W0 W)
    (fun _ _ _ => False)
    (OwnFrom.and (OwnFrom.and (Own.from (boxed_own _ _ _) _) (OwnFrom.and (Own.from (boxed_own _ _ _) _) (Own.from (boxed_own _ _ _) _))) (ownFrom_below hB0.size hB0.size))
    (fun _ _ _ _ _ hs _ _ => hs)
    ⟨⟨bA, bG, bR⟩, Below.refl _ _⟩
    (fun x => { tmps := #[.int .i64 (T : Int), .int .i64 a, .slice A len cap, undef, .pointer (some ⟨w.heap.size, 0, none⟩), undef, .int .i64 0, .int .i64 0, .int .i64 0, .pointer (some ⟨w.heap.size + 1, 0, none⟩), .pointer (some ⟨w.heap.size + 1 + 1, 0, none⟩), .int .i64 (x.val : Int), .int .i64 (T : Int), .int .i64 a, .slice A len cap, .int .i64 len, .int .i64 0, .int .i64 0, .bool false, undef, .int .i64 (T : Int), .slice A len cap, .func (.func 42) #[] #[.pointer (some ⟨w.heap.size + 1 + 1 + 1 + 1, 0, none⟩), .pointer (some ⟨w.heap.size + 1 + 1 + 1, 0, none⟩)], .int .i64 (x.val : Int), undef, undef, undef, undef, undef, undef, undef, undef, undef], defers := [] }) ?assign ?body ?done ?stop
  case assign =>
    intro l x W K hK
    gi_wp2
    exact hK
  case body =>
    rintro l pre x W ⟨⟨hA, hG, hR⟩, hB⟩ hlt
    have cA := hA.cell
    have cG := hG.cell
    have cR := hR.cell
    have fG := hG.frozen
    have fR := hR.frozen
    have hle := gapR_le a (fins pre)
    rw [fins_len] at hle
    have hg1 : (gapR a (fins pre)).1 ≤ 65536 := by omega
    have hg2 : (gapR a (fins pre)).2 ≤ 65536 := by omega
    have hap := fins_append pre [x]
    by_cases hx : (x.val : Int) = a
    · have hn := gapR_eq a (fins pre) _ hx
      have hap2 : fins (pre ++ [x]) = fins pre ++ [(x.val : Int)] := hap
      rw [← hap2] at hn
      generalize hgg : gapR a (fins pre) = s at *
      obtain ⟨g, r⟩ := s
      simp only at *
      have R1 := hR.set (.int .i64 ((r : Int) + 1))
      have R2 := R1.set (.int .i64 0)
      have G2 := (hG.other (by omega) (.int .i64 ((r : Int) + 1)) (B' := w.heap.size + 1 + 1)).other (by omega) (.int .i64 0) (B' := w.heap.size + 1 + 1)
      have A1 := hA.other (by omega) (.int .i64 ((r : Int) + 1)) (B' := w.heap.size + 1 + 1)
      have cR1 := R1.cell
      have cR2 := R2.cell
      have cG2 := G2.cell
      have fG2 := G2.frozen
      have fR1 := R1.frozen
      have cA1 := A1.cell
      have A3 := (A1.other (by omega) (.int .i64 0) (B' := w.heap.size + 1 + 1)).other (by omega) (.int .i64 (g : Int)) (B' := w.heap.size + 1)
      have G3 := G2.set (.int .i64 (g : Int))
      have R3 := R2.other (by omega) (.int .i64 (g : Int)) (B' := w.heap.size + 1)
      have hk3 := ((KeepsOthers.setCell W ⟨w.heap.size + 1 + 1, 0, none⟩ (.int .i64 ((r : Int) + 1))).trans (KeepsOthers.setCell _ ⟨w.heap.size + 1 + 1, 0, none⟩ (.int .i64 0))).trans (KeepsOthers.setCell _ ⟨w.heap.size + 1, 0, none⟩ (.int .i64 (g : Int)))
      have hb3 := (((Below.refl w.heap.size W).setCell (p := ⟨w.heap.size + 1 + 1, 0, none⟩) (by first | (simp; omega) | simp | omega) (.int .i64 ((r : Int) + 1))).setCell (p := ⟨w.heap.size + 1 + 1, 0, none⟩) (by first | (simp; omega) | simp | omega) (.int .i64 0)).setCell (p := ⟨w.heap.size + 1, 0, none⟩) (by first | (simp; omega) | simp | omega) (.int .i64 (g : Int))
      have hf3 := ((Below.heap_setCell _ ⟨w.heap.size + 1, 0, none⟩ (.int .i64 (g : Int)) (w.heap.size + 1 + 1 + 1) (by simp; omega)).trans (Below.heap_setCell _ ⟨w.heap.size + 1 + 1, 0, none⟩ (.int .i64 0) (w.heap.size + 1 + 1 + 1) (by simp))).trans (Below.heap_setCell W ⟨w.heap.size + 1 + 1, 0, none⟩ (.int .i64 ((r : Int) + 1)) (w.heap.size + 1 + 1 + 1) (by simp))
      gi_wp2
      exact ⟨hk3.from _, ⟨hb3, hf3⟩, ⟨A3, by rw [hn]; exact G3, by rw [hn]; exact R3⟩, hB.trans hb3⟩
    · have hn := gapR_ne a (fins pre) _ hx
      have hap2 : fins (pre ++ [x]) = fins pre ++ [(x.val : Int)] := hap
      rw [← hap2] at hn
      generalize hgg : gapR a (fins pre) = s at *
      obtain ⟨g, r⟩ := s
      simp only at *
      obtain ⟨m, hm⟩ : ∃ m : Nat, max g (r + 1) = m := ⟨_, rfl⟩
      rw [hm] at hn
      have R1 := hR.set (.int .i64 ((r : Int) + 1))
      have G1 := hG.other (by omega) (.int .i64 ((r : Int) + 1)) (B' := w.heap.size + 1 + 1)
      have A1 := hA.other (by omega) (.int .i64 ((r : Int) + 1)) (B' := w.heap.size + 1 + 1)
      have cR1 := R1.cell
      have cG1 := G1.cell
      have fG1 := G1.frozen
      have cA1 := A1.cell
      have A3 := A1.other (by omega) (.int .i64 (m : Int)) (B' := w.heap.size + 1)
      have G3 := G1.set (.int .i64 (m : Int))
      have R3 := R1.other (by omega) (.int .i64 (m : Int)) (B' := w.heap.size + 1)
      have hk3 := (KeepsOthers.setCell W ⟨w.heap.size + 1 + 1, 0, none⟩ (.int .i64 ((r : Int) + 1))).trans (KeepsOthers.setCell _ ⟨w.heap.size + 1, 0, none⟩ (.int .i64 (m : Int)))
      have hb3 := ((Below.refl w.heap.size W).setCell (p := ⟨w.heap.size + 1 + 1, 0, none⟩) (by first | (simp; omega) | simp | omega) (.int .i64 ((r : Int) + 1))).setCell (p := ⟨w.heap.size + 1, 0, none⟩) (by first | (simp; omega) | simp | omega) (.int .i64 (m : Int))
      have hf3 := (Below.heap_setCell _ ⟨w.heap.size + 1, 0, none⟩ (.int .i64 (m : Int)) (w.heap.size + 1 + 1 + 1) (by simp; omega)).trans (Below.heap_setCell W ⟨w.heap.size + 1 + 1, 0, none⟩ (.int .i64 ((r : Int) + 1)) (w.heap.size + 1 + 1 + 1) (by simp))
      by_cases hgr : (g : Int) < (r : Int) + 1
      · obtain rfl : m = r + 1 := by omega
        gi_wp2
        exact ⟨hk3.from _, ⟨hb3, hf3⟩, ⟨A3, by rw [hn]; exact G3, by rw [hn]; exact R3⟩, hB.trans hb3⟩
      · obtain rfl : m = g := by omega
        gi_wp2
        exact ⟨hk3.from _, ⟨hb3, hf3⟩, ⟨A3, by rw [hn]; exact G3, by rw [hn]; exact R3⟩, hB.trans hb3⟩
  case done =>
    rintro D ys W hD rfl ⟨⟨hA, hG, hR⟩, hB⟩ hK
    rw [thrs T (by omega) (by omega)] at hG
    have cG := hG.cell
    gi_wp2
    refine ⟨by simp, .inl ⟨_, _, rfl, run_takeDeferred hK, ?_⟩⟩
    exact ⟨_, results_tmp2 rfl _ _ _, rfl, (hB0.trans hB).trans (belowK_b (w := w) (Nat.le_refl _) W D _ _ (by have := hB0.size; omega) hK rfl rfl)⟩
  case stop =>
    rintro D c pre W _ _ h _
    exact h.elim
end Go.Proofs.Ytjpmhofpfmogiaa
