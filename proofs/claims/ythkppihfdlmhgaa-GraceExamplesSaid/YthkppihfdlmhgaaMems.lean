/- domain.Members walked. -/
import Derived.Test.YthkppihfdlmhgaaMem
namespace Go.Proofs.Ythkppihfdlmhgaa
open Go Go.RowKit Go.Shelf
set_option linter.unusedVariables false
attribute [local go_sem] Oper.semAt_some

/-- Numbers as ints. -/
def nats (l : List Nat) : List Value := l.map fun x : Nat => .int .i64 (x : Int)
theorem nats_len (l : List Nat) : (nats l).length = l.length := List.length_map _
theorem nats_append (a b : List Nat) : nats (a ++ b) = nats a ++ nats b := List.map_append
theorem nats_get (l : List Nat) (k : Nat) {u : Value} (h : (nats l)[k]? = some u) : ∃ v : Nat, l[k]? = some v ∧ u = .int .i64 (v : Int) := by
  unfold nats at h
  rw [List.getElem?_map] at h
  cases hv : l[k]? with
  | none => rw [hv] at h; cases h
  | some v => rw [hv] at h; exact ⟨v, rfl, by simpa using h.symm⟩
theorem any_take {α : Type} (p : α → Bool) {l : List α} {k : Nat} {x : α} (h : l[k]? = some x) : (l.take (k + 1)).any p = ((l.take k).any p || p x) := by
  rw [List.take_add_one, h, Option.toList_some, List.any_append]
  simp
theorem appended_far {W w1 : World} {tmp : Obj} {row : Option Nat} {B bt : Nat} {v' : Value} (hgrow : (W.alloc tmp).grownBy w1 row) (hbt : bt < W.heap.size) (hne : row ≠ some bt) (hB : B ≠ bt) : (w1.setCell ⟨B, 0, none⟩ v').heap[bt]? = W.heap[bt]? :=
  (Below.heap_setCell w1 ⟨B, 0, none⟩ v' bt (fun e => hB e.symm)).trans ((hgrow.block bt (by simp; omega) (fun e => hne e.symm)).trans (Below.heap_alloc W tmp bt hbt))
theorem infoInt : (Try.prog.info? 3).map (fun i => (i.zero, i.size, i.bytes)) = some (some (.int .i64 0), 1, 8) := by kernel_rfl

theorem members_in (F : Fence) (n : Nat) (hf : F.fn 50) (hro : F.round = none) (set : Int) (w : World) :
    CallsIn F n Try.prog 50 #[.int .u64 set] w fun e w' =>
      e = .returned (.func (.func 54) #[] #[.pointer (some ⟨w.heap.size, 0, none⟩)]) ∧ w' = w.alloc (.cells #[.int .u64 set] 23) := by
  refine callsIn_of_wp Try.func50 rfl hf ?_ hro
  simp only [Try.ntmps50, List.size_toArray, List.length_cons, List.length_nil, Nat.reduceAdd, Nat.reduceSub, Array.replicate_succ, Array.replicate_zero, List.push_toArray, List.append_toArray, List.nil_append, List.cons_append]
  gi_wp2
  go_ret
  exact ⟨by simp, rfl⟩

set_option maxRecDepth 100000 in
set_option maxHeartbeats 4000000 in
theorem members_ok (F : Fence) (n : Nat) (hF : F.fn 43) (h50 : F.fn 50) (h54 : F.fn 54) (hro : F.round = none) (hn : 3 ≤ n) (set : Int) (h0 : 0 ≤ set) (h1 : set < 18446744073709551616) (w : World) :
    CallsIn F n Try.prog 43 #[.int .u64 set] w fun e w' => ∃ A N c, e = .returned (.slice A N c) ∧ Hid (N = (memS set).length) ∧ Hid (Reads w' w'.heap.size 1 A N (nats (memS set))) ∧ Hid (Below w.heap.size w w') := by
  have h1' : 1 ≤ n := by omega
  obtain ⟨i0, hi0, hz0, hz1, hz2⟩ := info_parts infoInt
  refine callsIn_of_wp_marks Try.func43 rfl hF ?_ hro
  simp only [Try.ntmps43, List.size_toArray, List.length_cons, List.length_nil, Nat.reduceAdd, Nat.reduceSub, Array.replicate_succ, Array.replicate_zero, List.push_toArray, List.append_toArray, List.nil_append, List.cons_append]
  gi_wp2_with (gi_at_call 50; refine (members_in F (n - 1) h50 hro set _).mono ?_; rintro e w' ⟨rfl, rfl⟩)
  have hB0 : Below w.heap.size w ((w.alloc (.cells #[.slice none 0 0] 53)).alloc (.cells #[.int .u64 set] 23)) := ((Below.refl _ w).alloc (Nat.le_refl _) _).alloc (by first | (simp; omega) | simp | omega) _
  have bO := (Boxed.new w 53 (.slice none 0 0)).alloc (.cells #[.int .u64 set] 23)
  have bS := Boxed.new (w.alloc (.cells #[.slice none 0 0] 53)) 23 (.int .u64 set)
  simp only [World.size_alloc] at bS
  obtain ⟨W0, hW0⟩ : ∃ W0, ((w.alloc (.cells #[.slice none 0 0] 53)).alloc (.cells #[.int .u64 set] 23)) = W0 := ⟨_, rfl⟩
  have hsz : W0.heap.size = w.heap.size + 1 + 1 := by rw [← hW0]; simp
  rw [hW0] at hB0 bO bS ⊢
  clear hW0
  have row0 : W0.ownsRow w.heap.size 3 1 (.slice none 0 0) 0 [] := World.ownsRow_nil _ _ _ _
  refine loop_hands hro h1' (gf := 54) (lb := #[.pointer (some ⟨w.heap.size + 1, 0, none⟩)]) rfl h54 (enters_of Try.func54 (by kernel_rfl) rfl)
    (Bs := w.heap.size + 1) (by omega) (mem1_in F (n - 1) h54 hro (by omega) (w.heap.size + 1) set h0 h1 W0 bS) rfl
    (fun pre W => (∃ v, Boxed W w.heap.size 53 v ∧ W.ownsRow w.heap.size 3 1 v pre.length (nats pre) ∧ v.ownBlock ≠ some (w.heap.size + 1)) ∧ Below w.heap.size W0 W)
    (OwnFrom.and (Own.from (holdsRow_own w.heap.size w.heap.size 53 3 1 (fun pre => pre.length) (fun pre => nats pre) (fun pre v => v.ownBlock ≠ some (w.heap.size + 1))) _) (ownFrom_below hB0.size hB0.size))
    ⟨fun pre W v h => ?put, fun pre W h => ?drew⟩
    ⟨⟨_, bO, row0, by simp [Value.ownBlock]⟩, Below.refl _ _⟩
    (fun x => { tmps := #[.int .u64 set, undef, .slice none 0 0, .pointer (some ⟨w.heap.size, 0, none⟩), .int .i64 (x : Int), .int .u64 set, .func (.func 54) #[] #[.pointer (some ⟨w.heap.size + 1, 0, none⟩)], .int .i64 (x : Int), undef, undef, undef, undef, undef], defers := [] }) ?assign ?body ?done
  case put =>
    obtain ⟨⟨u, hu, hrow, hne⟩, hB⟩ := h
    exact ⟨⟨u, (Below.heap_setCell W _ v _ (by simp)).trans hu, ownsRow_setCell_other hrow hne v, hne⟩, hB.setCell (by simp) v⟩
  case drew =>
    obtain ⟨⟨u, hu, hrow, hne⟩, hB⟩ := h
    exact ⟨⟨u, hu, hrow.drew, hne⟩, hB.drew⟩
  case assign =>
    intro l x W K hK
    gi_wp2
    exact hK
  case body =>
    rintro l pre x W ⟨⟨v, hv, hrow, hne⟩, hB⟩ hlt hx
    have hc := hv.cell
    have hWs := hB.size
    have hw0 := hB0.size
    gi_wp2_with (gi_at_builtin; refine wpListIn_append_own_at _ rfl _ _ 53 rfl w.heap.size 3 i0 (.int .i64 0) 1 8 Try.underlying53 hi0 hz0 hz1 hz2 rfl (by decide) _ _ _ rfl (hrow.alloc _) ⟨W.heap.size, 0, none⟩ 1 1 [.int .i64 (x : Int)] rfl rfl (cell_one_new _ _ _) (by simp [Value.oneCell']) (by unfold maxLen; omega) (by omega) (by simp; omega) ?_; intro v' w1 hown' hgrow _ hob; obtain ⟨g', cap', rfl⟩ := ownsRow_succ hown'; obtain ⟨hv1, hv2, hr2, hk2, hb2⟩ := hv.appended (by decide) hrow (by omega) (by omega) hown' hgrow; have hc1 := hv1.cell; have hf1 := hv1.frozen)
    have hfar := appended_far (B := w.heap.size) (v' := .slice (some ⟨g', 0, none⟩) (pre.length + 1) cap') hgrow (bt := w.heap.size + 1) (by omega) hne (by omega)
    refine ⟨hk2.from _, hfar, ⟨_, hv2, ?_, ?_⟩, hB.trans hb2⟩
    · rw [nats_append]
      exact hr2
    · rcases hob with ho | ho
      · rw [ho]; exact hne
      · rw [ho]; simp; omega
  case done =>
    rintro D W hD ⟨⟨v, hv, hrow, hne⟩, hB⟩ hK
    have hc := hv.cell
    obtain ⟨A', c', rfl, _⟩ := own_form hrow
    gi_wp2
    refine ⟨by simp, .inl ⟨_, _, rfl, run_takeDeferred hK, ?_⟩⟩
    refine ⟨_, results_tmp rfl _ _ _, A', _, c', rfl, rfl, Reads.of_own (ownsRow_putObj hrow _ hK rfl), (hB0.trans hB).trans (belowK_b (w := w) (Nat.le_refl _) W D _ _ (by have := hB0.size; omega) hK rfl rfl)⟩

theorem members_any (set : Int) (h0 : 0 ≤ set) (h1 : set < 18446744073709551616) (w : World) :
    Calls Try.prog 43 #[.int .u64 set] w fun e w' => ∃ A N c, e = .returned (.slice A N c) ∧ Hid (N = (memS set).length) ∧ Hid (Reads w' w'.heap.size 1 A N (nats (memS set))) ∧ Hid (Below w.heap.size w w') :=
  (callsIn_wide (n := 3)).1 (members_ok _ 3 trivial trivial trivial rfl (by omega) set h0 h1 w)
end Go.Proofs.Ythkppihfdlmhgaa
