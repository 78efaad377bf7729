/- The iterator of picks.chosen: what it hands to a loop's body, for every body that keeps the picks and the box of the number of threads. -/
import Derived.Test.YtjpmhofpfmogiaaPlain
namespace Go.Proofs.Ytjpmhofpfmogiaa
open Go Go.RowKit
set_option linter.unusedVariables false
attribute [local go_sem] Oper.semAt_some

/-- What a body keeps: what lay below n₀, and the block bt. -/
def Kept (n₀ bt : Nat) (W W' : World) : Prop := Below n₀ W W' ∧ W'.heap[bt]? = W.heap[bt]?
theorem kept_t {n₀ bt : Nat} {A B C : World} (h : Kept n₀ bt A B) (k : Kept n₀ bt B C) : Kept n₀ bt A C := ⟨h.1.trans k.1, k.2.trans h.2⟩
theorem kept_b {n₀ bt : Nat} {w : World} (hn : n₀ ≤ w.heap.size) (hb : bt < w.heap.size) (W : World) (l : Nat) (o o' : Obj) (hl : w.heap.size ≤ l) (h : W.heap[l]? = some o) (h1 : o.isCells = false) (h2 : o.isWalk = false) : Kept n₀ bt W (W.putObj l o') :=
  ⟨belowK_b hn W l o o' hl h h1 h2, World.putObj_heap_other (by omega)⟩
theorem kept_refl (n₀ bt : Nat) (W : World) : Kept n₀ bt W W := ⟨Below.refl _ _, rfl⟩

set_option maxRecDepth 100000 in
set_option maxHeartbeats 1000000 in
theorem iter1_in (F : Fence) (n : Nat) (h42 : F.fn 42) (h36 : F.fn 36) (hro : F.round = none) (hn : 1 ≤ n) (l Bs Bt n₀ : Nat) (A : Option Addr) (len cap : Nat) (xs : List Int) (t : Int) (h1 : 1 ≤ t) (h2 : t ≤ 64) (hlen : len ≤ 65536)
    (J Jx : List (Fin 64) → World → Prop)
    (hY : ∀ pre x W, J pre W → pre.length < len → YieldAt F (n - 1) Try.prog l #[.int .i64 (x.val : Int)] W fun e W' =>
      (e = .returned (.bool true) ∧ J (pre ++ [x]) W' ∧ Kept n₀ Bt W W') ∨ (e = .returned (.bool false) ∧ Jx (pre ++ [x]) W'))
    (W : World) (hBs : W.cell? ⟨Bs, 0, none⟩ = some (.slice A len cap)) (hBt : W.cell? ⟨Bt, 0, none⟩ = some (.int .i64 t)) (hr : Reads W n₀ 1 A len (ints xs)) (h0 : J [] W) :
    CallsIn F n Try.prog 42 #[.func (.yield l) #[] #[], .pointer (some ⟨Bs, 0, none⟩), .pointer (some ⟨Bt, 0, none⟩)] W fun e W' => (∃ v, e = .returned v) ∧
      ((∃ ys, ys = xs.map (thr t) ∧ J ys W') ∨ (∃ pre, True ∧ Jx pre W')) := by
  have hl : xs.length = len := by have := hr.1; rw [ints_len] at this; omega
  refine callsIn_of_wp Try.func42 rfl h42 ?_ hro
  simp only [Try.ntmps42, List.size_toArray, List.length_cons, List.length_nil, Nat.reduceAdd, Nat.reduceSub, Array.replicate_succ, Array.replicate_zero, List.push_toArray, List.append_toArray, List.nil_append, List.cons_append]
  gi_wp2
  gi_loopw [8] (fun i wr => ∃ k : Nat, k ≤ len ∧ i = .int .i64 k ∧ J ((xs.map (thr t)).take k) wr ∧ Kept n₀ Bt W wr) (fun i _ => len - (intOf i).toNat)
  case atStart => exact ⟨0, Nat.zero_le _, rfl, h0, kept_refl _ _ _⟩
  case round =>
    obtain ⟨k, hk, rfl, hJs, hkp⟩ := hrel
    by_cases hlt : k < len
    · obtain ⟨ad, u, rfl, _, hx, hc⟩ := (hr.below hkp.1).at_ hlt
      obtain ⟨v, hv, rfl⟩ := ints_get xs k hx
      have ht : wr.cell? ⟨Bt, 0, none⟩ = some (.int .i64 t) := (World.cell?_of_block hkp.2).trans hBt
      have hsn := take_snoc (l := xs.map (thr t)) (k := k) (v := thr t v) (by rw [List.getElem?_map, hv]; rfl)
      have hval := thr_val h1 h2 v
      obtain ⟨fn, tmps, assign, body, hy, hR⟩ := hY _ (thr t v) wr hJs (by rw [List.length_take, List.length_map]; omega)
      rw [hval] at hy
      clear hx hv
      gi_wp2_with (gi_at_call 36; refine (of_in F (n - 1) h36 hro t v h1 h2 _).mono ?_; rintro e w' ⟨rfl, rfl⟩)
      refine hR.mono ?_
      rintro e W3 (⟨rfl, hJ3, hk3⟩ | ⟨rfl, hJx3⟩)
      · gi_wp2
        go_roundw
        case rel => exact ⟨k + 1, by omega, by go_num, by rw [hsn]; exact hJ3, kept_t hkp hk3⟩
        case measure => simp [intOf]; omega
      · gi_wp2
        refine bodyPost_ret (results_none rfl _ _ _) rfl ?_
        exact ⟨⟨_, rfl⟩, .inr ⟨_, trivial, hJx3⟩⟩
    · obtain rfl : k = len := by omega
      rw [List.take_of_length_le (by rw [List.length_map, hl]; exact Nat.le_refl _)] at hJs
      gi_wp2
      go_end0
      exact ⟨⟨_, rfl⟩, .inl ⟨_, rfl, hJs⟩⟩

/-- picks.chosen: both arguments are boxed; the function value captures the boxes. -/
theorem chosen_in (F : Fence) (n : Nat) (h33 : F.fn 33) (hro : F.round = none) (t : Int) (A : Option Addr) (len cap : Nat) (w : World) :
    CallsIn F n Try.prog 33 #[.int .i64 t, .slice A len cap] w fun e w' =>
      e = .returned (.func (.func 42) #[] #[.pointer (some ⟨w.heap.size + 1, 0, none⟩), .pointer (some ⟨w.heap.size, 0, none⟩)]) ∧ w' = (w.alloc (.cells #[.int .i64 t] 3)).alloc (.cells #[.slice A len cap] 22) := by
  refine callsIn_of_wp Try.func33 rfl h33 ?_ hro
  simp only [Try.ntmps33, List.size_toArray, List.length_cons, List.length_nil, Nat.reduceAdd, Nat.reduceSub, Array.replicate_succ, Array.replicate_zero, List.push_toArray, List.append_toArray, List.nil_append, List.cons_append]
  gi_wp2
  go_ret
  exact ⟨by simp, rfl⟩

/-- What picks.chosen hands back gives all threads in order. -/
theorem iter_stops (F : Fence) (n : Nat) (h42 : F.fn 42) (h36 : F.fn 36) (hro : F.round = none) (hn : 1 ≤ n) (Bs Bt n₀ : Nat) (A : Option Addr) (len cap : Nat) (xs : List Int) (t : Int) (h1 : 1 ≤ t) (h2 : t ≤ 64) (hlen : len ≤ 65536)
    (w : World) (hBs : Bs < w.heap.size) (hBt : Bt < w.heap.size) (hn₀ : n₀ ≤ w.heap.size)
    (hcs : w.cell? ⟨Bs, 0, none⟩ = some (.slice A len cap)) (hct : w.cell? ⟨Bt, 0, none⟩ = some (.int .i64 t)) (hr : Reads w n₀ 1 A len (ints xs)) :
    SeqStopsK F n Try.prog 42 #[.pointer (some ⟨Bs, 0, none⟩), .pointer (some ⟨Bt, 0, none⟩)] (fun x : Fin 64 => #[Value.int .i64 (x.val : Int)]) (Kept n₀ Bt) (fun ys => ys = xs.map (thr t)) (fun _ => True) len w := fun l J Jx W hW _ _ hY h0 =>
  iter1_in F n h42 h36 hro hn l Bs Bt n₀ A len cap xs t h1 h2 hlen J Jx hY W ((hW.cell (p := ⟨Bs, 0, none⟩) hBs).trans hcs) ((hW.cell (p := ⟨Bt, 0, none⟩) hBt).trans hct) (hr.below (hW.mono hn₀)) h0
end Go.Proofs.Ytjpmhofpfmogiaa
