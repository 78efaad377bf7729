/- picks.Chosen walked: a loop over the iterator. -/
import Derived.Test.YtjpmhofpfmogiaaIter
import Derived.Maps.AppendAt
import Derived.Maps.OwnIn
import Derived.Shelf.Abstract
namespace Go.Proofs.Ytjpmhofpfmogiaa
open Go Go.RowKit Go.Shelf
set_option linter.unusedVariables false
attribute [local go_sem] Oper.semAt_some

theorem infoInt : (Try.prog.info? 3).map (fun i => (i.zero, i.size, i.bytes)) = some (some (.int .i64 0), 1, 8) := by kernel_rfl

set_option maxHeartbeats 1000000 in
theorem chosen_err (F : Fence) (n : Nat) (hF : F.fn 12) (h32 : F.fn 32) (hro : F.round = none) (hn : 1 ≤ n) (t : Int) (A : Option Addr) (len cap : Nat) (w : World) (er : Int) (hc : chk t 0 len = er) (h0 : er = 2 ∨ er = 5) :
    CallsIn F n Try.prog 12 #[.int .i64 t, .slice A len cap] w fun e w' => e = .returned (.tuple #[.slice none 0 0, .int .i64 er]) ∧ w = w' := by
  rcases h0 with rfl | rfl
  all_goals
    refine callsIn_of_wp Try.func12 rfl hF ?_ hro
    simp only [Try.ntmps12, List.size_toArray, List.length_cons, List.length_nil, Nat.reduceAdd, Nat.reduceSub, Array.replicate_succ, Array.replicate_zero, List.push_toArray, List.append_toArray, List.nil_append, List.cons_append]
    gi_wp2_with (gi_at_call 32; refine (check_in F (n - 1) h32 hro t 0 len _).mono ?_; rintro e w' ⟨rfl, rfl⟩; rw [hc])
    go_ret2
    exact ⟨rfl, rfl⟩

/-- What Chosen returns. -/
def IntsEnd (l : List Int) (w : World) (e : Ending) (w' : World) : Prop :=
  ∃ A c, e = .returned (.tuple #[.slice A l.length c, .int .i64 0]) ∧ w'.ownsRow w.heap.size 3 1 (.slice A l.length c) l.length (ints l) ∧ Below w.heap.size w w'

theorem appended_far {W w1 : World} {tmp : Obj} {row : Option Nat} {B bt : Nat} {v' : Value} (hgrow : (W.alloc tmp).grownBy w1 row) (hbt : bt < W.heap.size) (hne : row ≠ some bt) (hB : B ≠ bt) : (w1.setCell ⟨B, 0, none⟩ v').heap[bt]? = W.heap[bt]? :=
  (Below.heap_setCell w1 ⟨B, 0, none⟩ v' bt (fun e => hB e.symm)).trans ((hgrow.block bt (by simp; omega) (fun e => hne e.symm)).trans (Below.heap_alloc W tmp bt hbt))

set_option maxRecDepth 100000 in
set_option maxHeartbeats 4000000 in
theorem chosen_ok (F : Fence) (n : Nat) (hF : F.fn 12) (h32 : F.fn 32) (h33 : F.fn 33) (h42 : F.fn 42) (h36 : F.fn 36) (hro : F.round = none) (hn : 3 ≤ n)
    (t : Int) (h1 : 1 ≤ t) (h2 : t ≤ 64) (l : List Int) (A : Option Addr) (len cap : Nat) (w : World) (hr : Hid (Reads w w.heap.size 1 A len (ints l))) (hlen : len ≤ 65536) :
    CallsIn F n Try.prog 12 #[.int .i64 t, .slice A len cap] w (IntsEnd (chl t l) w) := by
  have hl : Hid (l.length = len) := by have := hr.out.1; rw [ints_len] at this; unfold Hid; omega
  have hc : chk t 0 len = 0 := by unfold chk; rw [if_neg (by omega), if_neg (by omega)]
  have h1' : 1 ≤ n := by omega
  obtain ⟨i0, hi0, hz0, hz1, hz2⟩ := info_parts infoInt
  have hmk : ∀ W : World, (Instr.makeSlice 22 (.int .i64 0) (.int .i64 (len : Int))).run Try.prog W = .ok (.slice (some ⟨W.heap.size, 0, none⟩) 0 len) (W.alloc (.cells (madeCells (Value.int .i64 0).cells (len * i0.size)) 3)) := by
    intro W
    have h := run_make (P := Try.prog) W 22 3 i0 (.int .i64 0) Try.underlying22 hi0 hz0 .i64 .i64 0 len (by omega) (by omega) (by rw [hz2]; omega) (by omega)
    rw [h]
    simp only [Int.toNat_natCast]
    rfl
  obtain ⟨cs, hcs, hcz⟩ : ∃ cs : Array Value, madeCells (Value.int .i64 0).cells (len * i0.size) = cs ∧ cs.size = len := ⟨_, rfl, by rw [hz1, Nat.mul_one, ← Array.length_toList, show (Value.int IntKind.i64 0).cells = #[.int .i64 0] from rfl, toList_madeCells_one, List.length_replicate]⟩
  rw [hcs] at hmk
  refine callsIn_of_wp_marks Try.func12 rfl hF ?_ hro
  simp only [Try.ntmps12, List.size_toArray, List.length_cons, List.length_nil, Nat.reduceAdd, Nat.reduceSub, Array.replicate_succ, Array.replicate_zero, List.push_toArray, List.append_toArray, List.nil_append, List.cons_append]
  gi_wp2_with (first
    | (gi_at_call 32; refine (check_in F (n - 1) h32 hro t 0 len _).mono ?_; rintro e w' ⟨rfl, rfl⟩; rw [hc])
    | (gi_at_call 33; refine (chosen_in F (n - 1) h33 hro t A len cap _).mono ?_; rintro e w' ⟨rfl, rfl⟩))
  have hB0 : Below w.heap.size w ((((w.alloc (.cells cs 3)).alloc (.cells #[.slice (some ⟨w.heap.size, 0, none⟩) 0 len] 22)).alloc (.cells #[.int .i64 t] 3)).alloc (.cells #[.slice A len cap] 22)) :=
    ((((Below.refl _ w).alloc (Nat.le_refl _) _).alloc (by first | (simp; omega) | simp | omega) _).alloc (by first | (simp; omega) | simp | omega) _).alloc (by first | (simp; omega) | simp | omega) _
  have bO := ((Boxed.new (w.alloc (.cells cs 3)) 22 (.slice (some ⟨w.heap.size, 0, none⟩) 0 len)).alloc (.cells #[.int .i64 t] 3)).alloc (.cells #[.slice A len cap] 22)
  have bT := (Boxed.new ((w.alloc (.cells cs 3)).alloc (.cells #[.slice (some ⟨w.heap.size, 0, none⟩) 0 len] 22)) 3 (.int .i64 t)).alloc (.cells #[.slice A len cap] 22)
  have bS := Boxed.new (((w.alloc (.cells cs 3)).alloc (.cells #[.slice (some ⟨w.heap.size, 0, none⟩) 0 len] 22)).alloc (.cells #[.int .i64 t] 3)) 22 (.slice A len cap)
  have row0 : ((((w.alloc (.cells cs 3)).alloc (.cells #[.slice (some ⟨w.heap.size, 0, none⟩) 0 len] 22)).alloc (.cells #[.int .i64 t] 3)).alloc (.cells #[.slice A len cap] 22)).ownsRow w.heap.size 3 1 (.slice (some ⟨w.heap.size, 0, none⟩) 0 len) 0 [] := by
    have hh := (((Blk.new w 3 cs).alloc (.cells #[.slice (some ⟨w.heap.size, 0, none⟩) 0 len] 22)).alloc (.cells #[.int .i64 t] 3)).alloc (.cells #[.slice A len cap] 22)
    unfold Blk at hh
    exact ⟨rfl, .inr ⟨_, _, _, rfl, Nat.le_refl _, hh, Nat.zero_le _, by unfold maxLen; omega, by rw [hcz, Nat.mul_one], by simp⟩⟩
  simp only [World.size_alloc] at bO bT bS
  obtain ⟨W0, hW0⟩ : ∃ W0, ((((w.alloc (.cells cs 3)).alloc (.cells #[.slice (some ⟨w.heap.size, 0, none⟩) 0 len] 22)).alloc (.cells #[.int .i64 t] 3)).alloc (.cells #[.slice A len cap] 22)) = W0 := ⟨_, rfl⟩
  have hsz : W0.heap.size = w.heap.size + 1 + 1 + 1 + 1 := by rw [← hW0]; simp
  rw [hW0] at hB0 bO bT bS row0 ⊢
  clear hW0 hmk
  refine wpIn_rangeFunc_ownG hro h1' (gf := 42) (lb := #[.pointer (some ⟨w.heap.size + 1 + 1 + 1, 0, none⟩), .pointer (some ⟨w.heap.size + 1 + 1, 0, none⟩)]) rfl h42 (enters_of Try.func42 (by kernel_rfl) rfl)
    (iter_stops F (n - 1) h42 h36 hro (by omega) (w.heap.size + 1 + 1 + 1) (w.heap.size + 1 + 1) w.heap.size A len cap l t h1 h2 hlen _ (by omega) (by omega) hB0.size bS.cell bT.cell (hr.out.below hB0)) kept_t (kept_b hB0.size (by omega)) (Below.refl _ _) (fun _ => rfl)
    (fun pre W => (∃ v, Boxed W (w.heap.size + 1) 22 v ∧ W.ownsRow w.heap.size 3 1 v pre.length (ints (fins pre)) ∧ v.ownBlock ≠ some (w.heap.size + 1 + 1)) ∧ Below w.heap.size W0 W)
    (fun _ _ _ => False)
    (OwnFrom.and (Own.from (holdsRow_own w.heap.size (w.heap.size + 1) 22 3 1 (fun pre => pre.length) (fun pre => ints (fins pre)) (fun pre v => v.ownBlock ≠ some (w.heap.size + 1 + 1))) _) (ownFrom_below hB0.size hB0.size))
    (fun _ _ _ _ _ hs _ _ => hs)
    ⟨⟨_, bO, row0, by simp [Value.ownBlock]; omega⟩, Below.refl _ _⟩
    (fun x => { tmps := #[.int .i64 t, .slice A len cap, undef, undef, .slice none 0 0, .int .i64 0, .int .i64 0, .pointer (some ⟨w.heap.size + 1, 0, none⟩), .int .i64 (x.val : Int), .int .i64 t, .slice A len cap, .int .i64 len, .int .i64 0, .int .i64 0, .bool false, undef, .slice A len cap, .int .i64 len, .slice (some ⟨w.heap.size, 0, none⟩) 0 len, .int .i64 t, .slice A len cap, .func (.func 42) #[] #[.pointer (some ⟨w.heap.size + 1 + 1 + 1, 0, none⟩), .pointer (some ⟨w.heap.size + 1 + 1, 0, none⟩)], .int .i64 (x.val : Int), undef, undef, undef, undef, undef], defers := [] }) ?assign ?body ?done ?stop
  case assign =>
    intro l x W K hK
    gi_wp2
    exact hK
  case body =>
    rintro l pre x W ⟨⟨v, hv, hrow, hne⟩, hB⟩ hlt
    have hc := hv.cell
    have hWs := hB.size
    have hw0 := hB0.size
    gi_wp2_with (gi_at_builtin; refine wpListIn_append_own_at _ rfl _ _ 22 rfl w.heap.size 3 i0 (.int .i64 0) 1 8 Try.underlying22 hi0 hz0 hz1 hz2 rfl (by decide) _ _ _ rfl (hrow.alloc _) ⟨W.heap.size, 0, none⟩ 1 1 [.int .i64 (x.val : Int)] rfl rfl (cell_one_new _ _ _) (by simp [Value.oneCell']) (by unfold maxLen; omega) (by omega) (by simp; omega) ?_; intro v' w1 hown' hgrow _ hob; obtain ⟨g', cap', rfl⟩ := ownsRow_succ hown'; obtain ⟨hv1, hv2, hr2, hk2, hb2⟩ := hv.appended (by decide) hrow (by omega) (by omega) hown' hgrow; have hc1 := hv1.cell; have hf1 := hv1.frozen)
    have hfar := appended_far (B := w.heap.size + 1) (v' := .slice (some ⟨g', 0, none⟩) (pre.length + 1) cap') hgrow (bt := w.heap.size + 1 + 1) (by omega) hne (by omega)
    refine ⟨hk2.from _, ⟨hb2, hfar⟩, ⟨_, hv2, ?_, ?_⟩, hB.trans hb2⟩
    · rw [fins_append, ints_append, List.length_append]
      exact hr2
    · rcases hob with ho | ho
      · rw [ho]; exact hne
      · rw [ho]; simp; omega
  case done =>
    rintro D ys W hD rfl ⟨⟨v, hv, hrow, hne⟩, hB⟩ hK
    have hc := hv.cell
    obtain ⟨A', c', rfl, _⟩ := own_form hrow
    rw [thrs t h1 h2, List.length_map, ← chl_len t l] at hrow
    rw [List.length_map, ← chl_len t l] at hc
    gi_wp2
    refine ⟨by simp, .inl ⟨_, _, rfl, run_takeDeferred hK, ?_⟩⟩
    exact ⟨_, results_tmp2 rfl _ _ _, A', c', rfl, ownsRow_putObj hrow _ hK rfl, (hB0.trans hB).trans (belowK_b (w := w) (Nat.le_refl _) W D _ _ (by have := hB0.size; omega) hK rfl rfl)⟩
  case stop =>
    rintro D c pre W _ _ h _
    exact h.elim
end Go.Proofs.Ytjpmhofpfmogiaa
