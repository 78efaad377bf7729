/- picks.Counts walked: a loop over the iterator that counts in an array. -/
import Derived.Test.YtjpmhofpfmogiaaChosen
import Derived.Test.YtjpmhofpfmogiaaCountsP
namespace Go.Proofs.Ytjpmhofpfmogiaa
open Go Go.RowKit Go.Shelf
set_option linter.unusedVariables false
attribute [local go_sem] Oper.semAt_some

theorem blk_own {β : Type} (g : Nat) (t : TypeId) (f : β → Array Value) : Own (fun s W => Blk W g t (f s)) := by
  rintro s X Y row h hg hrow
  refine h.grown hg fun e => ?_
  obtain ⟨o, ho, hc⟩ := hrow g e.symm
  unfold Blk at h
  rw [h] at ho
  cases ho
  cases hc
theorem Reads.of_blk {w : World} {g : Nat} {t : TypeId} {cs : List Value} (h : Blk w g t cs.toArray) (m : Nat) (hm : m ≤ cs.length) : Reads w w.heap.size 1 (some ⟨g, 0, none⟩) m (cs.take m) := by
  refine ⟨by rw [List.length_take]; omega, fun _ => ⟨_, rfl, h.lt, fun j u hu => ?_⟩⟩
  rw [Addr.add_lit, Nat.zero_add, h.cell]
  rw [List.getElem?_take] at hu
  split at hu
  · simpa using hu
  · cases hu

set_option maxHeartbeats 1000000 in
theorem counts_err (F : Fence) (n : Nat) (hF : F.fn 14) (h32 : F.fn 32) (hro : F.round = none) (hn : 1 ≤ n) (t : Int) (A : Option Addr) (len cap : Nat) (w : World) (er : Int) (hc : chk t 0 len = er) (h0 : er = 2 ∨ er = 5) :
    CallsIn F n Try.prog 14 #[.int .i64 t, .slice A len cap] w fun e w' => e = .returned (.tuple #[.slice none 0 0, .int .i64 er]) ∧ w = w' := by
  rcases h0 with rfl | rfl
  all_goals
    refine callsIn_of_wp Try.func14 rfl hF ?_ hro
    simp only [Try.ntmps14, List.size_toArray, List.length_cons, List.length_nil, Nat.reduceAdd, Nat.reduceSub, Array.replicate_succ, Array.replicate_zero, List.push_toArray, List.append_toArray, List.nil_append, List.cons_append]
    gi_wp2_with (gi_at_call 32; refine (check_in F (n - 1) h32 hro t 0 len _).mono ?_; rintro e w' ⟨rfl, rfl⟩; rw [hc])
    go_ret2
    exact ⟨rfl, rfl⟩

set_option maxRecDepth 100000 in
set_option maxHeartbeats 4000000 in
theorem counts_ok (F : Fence) (n : Nat) (hF : F.fn 14) (h32 : F.fn 32) (h33 : F.fn 33) (h42 : F.fn 42) (h36 : F.fn 36) (hro : F.round = none) (hn : 3 ≤ n)
    (T : Nat) (h1 : 1 ≤ T) (h2 : T ≤ 64) (l : List Int) (A : Option Addr) (len cap : Nat) (w : World) (hr : Hid (Reads w w.heap.size 1 A len (ints l))) (hlen : len ≤ 65536) :
    CallsIn F n Try.prog 14 #[.int .i64 (T : Int), .slice A len cap] w (IntsEnd (cnts T (chl T l)) w) := by
  have hl : Hid (l.length = len) := by have := hr.out.1; rw [ints_len] at this; unfold Hid; omega
  have hc : chk T 0 len = 0 := by unfold chk; rw [if_neg (by omega), if_neg (by omega)]
  have h1' : 1 ≤ n := by omega
  obtain ⟨i0, hi0, hz0, hz1, hz2⟩ := info_parts infoInt
  refine callsIn_of_wp_marks Try.func14 rfl hF ?_ hro
  simp only [Try.ntmps14, List.size_toArray, List.length_cons, List.length_nil, Nat.reduceAdd, Nat.reduceSub, Array.replicate_succ, Array.replicate_zero, List.push_toArray, List.append_toArray, List.nil_append, List.cons_append]
  gi_wp2_with (first
    | (gi_at_call 32; refine (check_in F (n - 1) h32 hro T 0 len _).mono ?_; rintro e w' ⟨rfl, rfl⟩; rw [hc])
    | (gi_at_call 33; refine (chosen_in F (n - 1) h33 hro T A len cap _).mono ?_; rintro e w' ⟨rfl, rfl⟩))
  have hz64 : (#[Value.int IntKind.i64 0, Value.int IntKind.i64 0, Value.int IntKind.i64 0, Value.int IntKind.i64 0, Value.int IntKind.i64 0, Value.int IntKind.i64 0, Value.int IntKind.i64 0, Value.int IntKind.i64 0, Value.int IntKind.i64 0, Value.int IntKind.i64 0, Value.int IntKind.i64 0, Value.int IntKind.i64 0, Value.int IntKind.i64 0, Value.int IntKind.i64 0, Value.int IntKind.i64 0, Value.int IntKind.i64 0, Value.int IntKind.i64 0, Value.int IntKind.i64 0, Value.int IntKind.i64 0, Value.int IntKind.i64 0, Value.int IntKind.i64 0, Value.int IntKind.i64 0, Value.int IntKind.i64 0, Value.int IntKind.i64 0, Value.int IntKind.i64 0, Value.int IntKind.i64 0, Value.int IntKind.i64 0, Value.int IntKind.i64 0, Value.int IntKind.i64 0, Value.int IntKind.i64 0, Value.int IntKind.i64 0, Value.int IntKind.i64 0, Value.int IntKind.i64 0, Value.int IntKind.i64 0, Value.int IntKind.i64 0, Value.int IntKind.i64 0, Value.int IntKind.i64 0, Value.int IntKind.i64 0, Value.int IntKind.i64 0, Value.int IntKind.i64 0, Value.int IntKind.i64 0, Value.int IntKind.i64 0, Value.int IntKind.i64 0, Value.int IntKind.i64 0, Value.int IntKind.i64 0, Value.int IntKind.i64 0, Value.int IntKind.i64 0, Value.int IntKind.i64 0, Value.int IntKind.i64 0, Value.int IntKind.i64 0, Value.int IntKind.i64 0, Value.int IntKind.i64 0, Value.int IntKind.i64 0, Value.int IntKind.i64 0, Value.int IntKind.i64 0, Value.int IntKind.i64 0, Value.int IntKind.i64 0, Value.int IntKind.i64 0, Value.int IntKind.i64 0, Value.int IntKind.i64 0, Value.int IntKind.i64 0, Value.int IntKind.i64 0, Value.int IntKind.i64 0, Value.int IntKind.i64 0] : Array Value) = (cntC 64 []).toArray := by rw [cntC_zero]; rfl
  rw [hz64]
  clear hz64
  have hB0 : Below w.heap.size w (((w.alloc (.cells (cntC 64 []).toArray 51)).alloc (.cells #[.int .i64 (T : Int)] 3)).alloc (.cells #[.slice A len cap] 22)) :=
    (((Below.refl _ w).alloc (Nat.le_refl _) _).alloc (by first | (simp; omega) | simp | omega) _).alloc (by first | (simp; omega) | simp | omega) _
  have bC := ((Blk.new w 51 (cntC 64 []).toArray).alloc (.cells #[.int .i64 (T : Int)] 3)).alloc (.cells #[.slice A len cap] 22)
  have bT := (Boxed.new (w.alloc (.cells (cntC 64 []).toArray 51)) 3 (.int .i64 (T : Int))).alloc (.cells #[.slice A len cap] 22)
  have bS := Boxed.new ((w.alloc (.cells (cntC 64 []).toArray 51)).alloc (.cells #[.int .i64 (T : Int)] 3)) 22 (.slice A len cap)
  simp only [World.size_alloc] at bT bS
  obtain ⟨W0, hW0⟩ : ∃ W0, (((w.alloc (.cells (cntC 64 []).toArray 51)).alloc (.cells #[.int .i64 (T : Int)] 3)).alloc (.cells #[.slice A len cap] 22)) = W0 := ⟨_, rfl⟩
  have hsz : W0.heap.size = w.heap.size + 1 + 1 + 1 := by rw [← hW0]; simp
  rw [hW0] at hB0 bC bT bS ⊢
  clear hW0
  refine wpIn_rangeFunc_ownG hro h1' (gf := 42) (lb := #[.pointer (some ⟨w.heap.size + 1 + 1, 0, none⟩), .pointer (some ⟨w.heap.size + 1, 0, none⟩)]) rfl h42 (enters_of Try.func42 (by kernel_rfl) rfl)
    (iter_stops F (n - 1) h42 h36 hro (by omega) (w.heap.size + 1 + 1) (w.heap.size + 1) w.heap.size A len cap l T (by omega) (by omega) hlen _ (by omega) (by omega) hB0.size bS.cell bT.cell (hr.out.below hB0)) kept_t (kept_b hB0.size (by omega)) (Below.refl _ _) (fun _ => rfl)
    (fun pre W => Blk W w.heap.size 51 (cntC 64 (fins pre)).toArray ∧ Below w.heap.size W0 W)
    (fun _ _ _ => False)
    (OwnFrom.and (Own.from (blk_own w.heap.size 51 (fun pre => (cntC 64 (fins pre)).toArray)) _) (ownFrom_below hB0.size hB0.size))
    (fun _ _ _ _ _ hs _ _ => hs)
    ⟨bC, Below.refl _ _⟩
    (fun x => { tmps := #[.int .i64 (T : Int), .slice A len cap, undef, undef, .slice none 0 0, .int .i64 0, .int .i64 0, .pointer (some ⟨w.heap.size, 0, none⟩), .int .i64 (x.val : Int), .int .i64 (T : Int), .slice A len cap, .int .i64 len, .int .i64 0, .int .i64 0, .bool false, undef, .int .i64 (T : Int), .slice A len cap, .func (.func 42) #[] #[.pointer (some ⟨w.heap.size + 1 + 1, 0, none⟩), .pointer (some ⟨w.heap.size + 1, 0, none⟩)], .int .i64 (x.val : Int), undef, undef, undef, undef, undef, undef, undef, undef], defers := [] }) ?assign ?body ?done ?stop
  case assign =>
    intro l x W K hK
    gi_wp2
    exact hK
  case body =>
    rintro l pre x W ⟨hC, hB⟩ hlt
    have hx := x.isLt
    have hcell : W.cell? ⟨w.heap.size, x.val, none⟩ = some (.int .i64 (cnt (fins pre) x.val : Int)) := by rw [hC.cell, List.getElem?_toArray, cntC_get hx]
    have hf : W.frozen? ⟨w.heap.size, x.val, none⟩ = false := hC.frozen _
    have hle : cnt (fins pre) x.val ≤ 65536 := by have := cnt_le (fins pre) x.val; rw [fins_len] at this; omega
    have hC' := hC.set_ x.val (.int .i64 ((cnt (fins pre) x.val : Int) + 1))
    rw [List.setIfInBounds_toArray, cntC_set hx] at hC'
    have hbel := (Below.refl w.heap.size W).setCell (p := ⟨w.heap.size, x.val, none⟩) (Nat.le_refl _) (.int .i64 ((cnt (fins pre) x.val : Int) + 1))
    have hfar := Below.heap_setCell W ⟨w.heap.size, x.val, none⟩ (.int .i64 ((cnt (fins pre) x.val : Int) + 1)) (w.heap.size + 1) (by simp)
    have hkee := KeepsOthers.setCell W ⟨w.heap.size, x.val, none⟩ (.int .i64 ((cnt (fins pre) x.val : Int) + 1))
    generalize hcc : cnt (fins pre) x.val = c at *
    gi_wp2
    exact ⟨hkee.from _, ⟨hbel, hfar⟩, by rw [fins_append]; exact hC', hB.trans hbel⟩
  case done =>
    rintro D ys W hD rfl ⟨hC, hB⟩ hK
    have hl' : (chl T l).length = len := by rw [chl_len]; exact hl.out
    rw [thrs T (by omega) (by omega)] at hC
    have hrd := Reads.of_blk hC T (by rw [cntC_len]; omega)
    rw [cntC_take 64 T _ h2] at hrd
    have hw0 := hB0.size
    have hWs := hB.size
    obtain ⟨ad, had, _, hcells⟩ := hrd.2 (by omega)
    obtain rfl := Option.some.inj had
    have hone : ∀ u ∈ cntC T (chl T l), u.oneCell' = true := by
      intro u hu
      obtain ⟨j, _, rfl⟩ := List.mem_map.1 hu
      rfl
    have hal : Try.prog.arrayLen 51 = 64 := by kernel_rfl
    have hel : Try.prog.elem 51 = 3 := by kernel_rfl
    have hsl : (Instr.sliceAt 51 (.pointer (some ⟨w.heap.size, 0, none⟩)) none (some (.int .i64 (T : Int))) none).run Try.prog W = .ok (.slice (some ⟨w.heap.size, 0, none⟩) T 64) W := by
      rw [run_sliceAt_array_h W 51 ⟨w.heap.size, 0, none⟩ (by kernel_rfl) .i64 (T : Int) (by omega) (by rw [hal]; omega), hal, hel]
      simp [sizeOf, typeInfo, hi0, hz1, slicedAt, Result.andThen, Addr.add]
    gi_wp2_with (gi_at_builtin; refine wpListIn_append_own_at _ rfl _ _ 22 rfl w.heap.size 3 i0 (.int .i64 0) 1 8 Try.underlying22 hi0 hz0 hz1 hz2 rfl (by decide) (.slice none 0 0) 0 [] rfl (World.ownsRow_nil _ _ _ _) ⟨w.heap.size, 0, none⟩ T 64 (cntC T (chl T l)) rfl (by rw [cntC_len, Nat.mul_one]) hcells hone (by unfold maxLen; omega) (by omega) (by omega) ?_; intro v' w1 hown' hgrow _ hob)
    obtain ⟨A', c', rfl, _⟩ := own_form hown'
    simp only [Nat.zero_add, List.nil_append] at hown' ⊢
    have hDl : D < W.heap.size := (Array.getElem?_eq_some_iff.1 hK).1
    have hK1 : w1.heap[D]? = some (.deferred (some [])) := (hgrow.block D hDl (by simp [Value.ownBlock])).trans hK
    have hb1 := ((hB0.trans hB).grown hgrow (by omega) (fun k e => by simp [Value.ownBlock] at e)).trans (belowK_b (w := w) (Nat.le_refl _) w1 D _ (.deferred none) (by omega) hK1 rfl rfl)
    refine ⟨by simp, .inl ⟨_, _, rfl, run_takeDeferred hK1, ?_⟩⟩
    refine ⟨_, results_tmp2 rfl _ _ _, A', c', by rw [cnts_len]; rfl, ?_, hb1⟩
    rw [cnts_len, cnts_cells]
    exact ownsRow_putObj hown' _ hK1 rfl
  case stop =>
    rintro D c pre W _ _ h _
    exact h.elim
end Go.Proofs.Ytjpmhofpfmogiaa
