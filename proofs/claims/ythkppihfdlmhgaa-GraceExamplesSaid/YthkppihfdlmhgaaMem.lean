/- domain.members: an iterator that writes a variable of its own. The law of a loop over such an iterator, for a body that never leaves. -/
import Derived.Test.YthkppihfdlmhgaaGraP
import Derived.Maps.AppendAt
import Derived.Maps.OwnIn
import Derived.RangeFuncNested
import Derived.RangeFuncBound
import Derived.RangeFuncCalls
import Derived.RangeFuncLeaves
import Derived.RangeFuncBox
import Derived.OwnWalkIn
import Derived.TacticsInMore
import Derived.LoopNIn
import Derived.LoopIn
import Derived.Shelf.Abstract
namespace Go.Proofs.Ythkppihfdlmhgaa
open Go Go.RowKit Go.Shelf
set_option linter.unusedVariables false
attribute [local go_sem] Oper.semAt_some

/-- What the iterator does behind the caller's back: it writes its variable, in block Bs, and draws. -/
structure Bears (Bs : Nat) (J : List Nat → World → Prop) : Prop where
  put : ∀ pre W v, J pre W → J pre (W.setCell ⟨Bs, 0, none⟩ v)
  drew : ∀ pre W, J pre W → J pre W.drew
/-- What such an iterator is worth: it hands out the list L. -/
def Hands (F : Fence) (n : Nat) (P : Program) (gf : Nat) (lb : Array Value) (Bs : Nat) (w : World) (L : List Nat) : Prop :=
  ∀ (l : Nat) (J : List Nat → World → Prop) (W : World), Bears Bs J →
    (∀ (pre : List Nat) (x : Nat) (W1 : World), J pre W1 → pre.length < 64 → x < 64 → YieldAt F (n - 1) P l #[.int .i64 (x : Int)] W1 fun e W' => e = .returned (.bool true) ∧ J (pre ++ [x]) W' ∧ W'.heap[Bs]? = W1.heap[Bs]?) →
    W.heap[Bs]? = w.heap[Bs]? → J [] W →
    CallsIn F n P gf (#[.func (.yield l) #[] #[]] ++ lb) W fun e W' => (∃ v, e = .returned v) ∧ J L W'

/-- A loop over such an iterator; the body always goes on. -/
theorem loop_hands {F : Fence} {n : Nat} {P : Program} {g : Operand} {ps : Array Tmp} {assign body : Code} {Q : Exit → Act → World → Prop} {a : Act} {w : World}
    (hro : F.round = none) (h1 : 1 ≤ n) {gf : Nat} {lb : Array Value} (hg : a.eval g = .func (.func gf) #[] lb) (hF : F.fn gf) (eg : ∀ args w, (callFunc gf args).run P w = .ok (.enter gf args) w)
    {Bs : Nat} (hBs : Bs < w.heap.size) {L : List Nat} (hit : Hands F (n - 1) P gf lb Bs w L) (hps : ps.size = 1)
    (I : List Nat → World → Prop) (hI : OwnFrom w.heap.size I) (hB : Bears Bs I) (h0 : I [] w) (a₁ : Nat → Act)
    (hassign : ∀ (l : Nat) (x : Nat) (W : World) (K : Act → World → Prop), K (a₁ x) W →
      assign.wpIn (F.inRound l) (n - 1 - 1) P (Exit.then K (fun _ _ _ => False)) { tmps := (ps.zip #[.int .i64 (x : Int)]).foldl (fun t (p, v) => t.setIfInBounds p v) a.tmps, defers := [] } W)
    (hbody : ∀ (l : Nat) (pre : List Nat) (x : Nat) (W : World), I pre W → pre.length < 64 → x < 64 → body.wpIn (F.inRound l) (n - 1 - 1) P
      (fun e _ W' => e = .normal ∧ KeepsFrom w.heap.size W W' ∧ W'.heap[Bs]? = W.heap[Bs]? ∧ I (pre ++ [x]) W') (a₁ x) W)
    (hdone : ∀ (D : Nat) (W : World), w.heap.size ≤ D → I L W → W.heap[D]? = some (.deferred (some [])) → Q .normal { a with defers := { target := .collected D, args := #[] } :: a.defers } W) :
    (Code.rangeFunc g ps assign body).wpIn F n P Q a w := by
  refine wpIn_rangeFunc fun fn hfn => ?_
  rw [hro]
  obtain ⟨rc, hrc⟩ : ∃ rc : LoopState → Loop, rc = fun st => { state := st, pending := none, fn, tmps := a.tmps, params := ps, assign, body, defers := w.heap.size } := ⟨_, rfl⟩
  have ha : (w.alloc (.deferred (some []))).heap.size = w.heap.size + 1 := World.size_alloc _ _
  have hL1 : ((w.alloc (.deferred (some []))).alloc (.loop (rc .ready))).heap[w.heap.size + 1]? = some (.loop (rc .ready)) := by
    rw [← ha]; exact World.alloc_heap_new _ _
  have hD1 : ((w.alloc (.deferred (some []))).alloc (.loop (rc .ready))).heap[w.heap.size]? = some (.deferred (some [])) :=
    (Below.heap_alloc _ _ _ (by omega)).trans (World.alloc_heap_new w _)
  have hS1 : ((w.alloc (.deferred (some []))).alloc (.loop (rc .ready))).heap[Bs]? = w.heap[Bs]? :=
    (Below.heap_alloc _ _ _ (by omega)).trans (Below.heap_alloc _ _ _ hBs)
  have hI1 : I [] ((w.alloc (.deferred (some []))).alloc (.loop (rc .ready))) := hI.alloc _ (hI.alloc _ h0)
  have he : (Instr.enterLoop fn a.tmps ps assign body none).run P w = .ok (w.heap.size + 1, [{ target := .collected w.heap.size, args := #[] }]) ((w.alloc (.deferred (some []))).alloc (.loop (rc .ready))) := by
    rw [hrc]; exact run_enterLoop_outer _ _ _ _ _
  generalize ((w.alloc (.deferred (some []))).alloc (.loop (rc .ready))) = W1 at hL1 hD1 hS1 hI1 he
  refine ⟨_, _, W1, { target := .fn (.func gf) lb, args := #[.func (.yield (w.heap.size + 1)) #[] #[]] }, W1, gf, #[.func (.yield (w.heap.size + 1)) #[] #[]] ++ lb, W1, he, ?_, ?_, ?_, fun _ => h1, ?_⟩
  · simp only [resolve, hg]
    simp [go_sem]
  · intro f' hf'
    simp [Target.leads] at hf'
    subst hf'
    exact hF
  · simp [invoke, go_sem, eg]
  · refine (hit (w.heap.size + 1) (fun pre W => I pre W ∧ W.heap[w.heap.size + 1]? = some (.loop (rc .ready)) ∧ W.heap[w.heap.size]? = some (.deferred (some []))) W1
      ⟨fun pre W v h => ⟨hB.put pre W v h.1, (Below.heap_setCell W _ v _ (by simp; omega)).trans h.2.1, (Below.heap_setCell W _ v _ (by simp; omega)).trans h.2.2⟩, fun pre W h => ⟨hB.drew pre W h.1, h.2.1, h.2.2⟩⟩ ?_ hS1 ⟨hI1, hL1, hD1⟩).mono ?_
    · rintro pre x W ⟨hi, hl, hk⟩ hlen hx
      have hlt : w.heap.size + 1 < W.heap.size := (Array.getElem?_eq_some_iff.1 hl).1
      have hy := run_yield (P := P) (args := #[.int .i64 (x : Int)]) hl (by rw [hrc]; exact hps.symm)
      have hbr := run_beginRound (P := P) hl (by rw [hrc])
      rw [hrc] at hy
      refine ⟨fn, _, assign, body, hy, roundIn_of_wpIn hfn (hassign _ x W _ ⟨_, hbr, ?_⟩)⟩
      have hl2 := World.putObj_heap_same (w := W) (o := .loop { rc .ready with state := .busy }) hlt
      have hk2 := (World.putObj_heap_other (w := W) (r := w.heap.size + 1) (k := w.heap.size) (o := .loop { rc .ready with state := .busy }) (by omega)).trans hk
      have hs2 := World.putObj_heap_other (w := W) (r := w.heap.size + 1) (k := Bs) (o := .loop { rc .ready with state := .busy }) (by omega)
      refine wpIn_mono (hbody _ pre x _ (hI.putObj _ hi (by omega) hl rfl) hlen hx) ?_
      rintro e a3 W3 ⟨rfl, hk3, hs3, hi3⟩
      have hl3 := hk3.same _ _ (by omega) hl2 rfl
      have hd3 := hk3.same _ _ (Nat.le_refl _) hk2 rfl
      have hr := run_endRound (P := P) none hl3
      have hlt3 := (Array.getElem?_eq_some_iff.1 hl3).1
      refine ⟨_, _, hr, rfl, ⟨hI.putObj _ hi3 (by omega) hl3 rfl, ?_, (World.putObj_heap_other (by omega)).trans hd3⟩, ((World.putObj_heap_other (by omega)).trans hs3).trans hs2⟩
      rw [World.putObj_heap_same hlt3, hrc]
      rfl
    · rintro e W2 ⟨⟨v, rfl⟩, hi, hl, hk⟩
      have hr := run_endLoop (P := P) hl (by rw [hrc]; simp)
      rw [show (rc .ready).pending = none by rw [hrc]] at hr
      exact ⟨none, _, hr, hdone _ _ (Nat.le_refl _) (hI.putObj _ hi (by omega) hl rfl) ((World.putObj_heap_other (by omega)).trans hk)⟩

theorem wrap_u64 {x : Int} (h0 : 0 ≤ x) (h1 : x < 18446744073709551616) : IntKind.u64.wrap x = x := by
  unfold IntKind.wrap
  simp [IntKind.bits, IntKind.signed]
  omega
/-- Half of a set's word. -/
theorem set_half {set : Int} (h0 : 0 ≤ set) (h1 : set < 18446744073709551616) (k : Nat) : 0 ≤ set / 2 ^ k ∧ set / 2 ^ k < 18446744073709551616 := by
  have hp : (0 : Int) < 2 ^ k := Int.pow_pos (by decide)
  refine ⟨Int.ediv_nonneg h0 (Int.le_of_lt hp), Int.lt_of_le_of_lt (Int.ediv_le_self _ h0) h1⟩

set_option maxRecDepth 100000 in
set_option maxHeartbeats 1000000 in
theorem mem1_in (F : Fence) (n : Nat) (hf : F.fn 54) (hro : F.round = none) (hn : 1 ≤ n) (Bs : Nat) (set : Int) (h0 : 0 ≤ set) (h1 : set < 18446744073709551616) (w : World) (hb : Boxed w Bs 23 (.int .u64 set)) :
    Hands F n Try.prog 54 #[.pointer (some ⟨Bs, 0, none⟩)] Bs w (memS set) := by
  intro l J W hJ hY hW hJ0
  have hbW : Boxed W Bs 23 (.int .u64 set) := hW.trans hb
  refine callsIn_of_wp Try.func54 rfl hf ?_ hro
  simp only [Try.ntmps54, List.size_toArray, List.length_cons, List.length_nil, Nat.reduceAdd, Nat.reduceSub, Array.replicate_succ, Array.replicate_zero, List.push_toArray, List.append_toArray, List.nil_append, List.cons_append]
  gi_wp2
  gi_loopw [3] (fun i wr => ∃ k : Nat, k ≤ 64 ∧ i = .int .i64 k ∧ Boxed wr Bs 23 (.int .u64 (set / 2 ^ k)) ∧ J (memT set k) wr) (fun i _ => 64 - (intOf i).toNat)
  case atStart => exact ⟨0, Nat.zero_le _, rfl, by rw [show set / 2 ^ 0 = set by simp]; exact hbW, hJ0⟩
  case round =>
    obtain ⟨k, hk, rfl, hbk, hJk⟩ := hrel
    have hc := hbk.cell
    have hs := set_half h0 h1 k
    have hz64 : set / 2 ^ k ≠ 0 → k < 64 := fun h => Decidable.byContradiction fun hc => h (big_zero h0 h1 (by omega))
    have hd := div_succ set k
    have hbit : bitB set k = decide (set / 2 ^ k % 2 = 1) := rfl
    have hsc := memT_succ set k
    have hmd : set / 2 ^ k = 0 → memT set k = memS set := fun h => mem_done h0 h1 hk h
    have hml := memT_len set k
    generalize hsk : set / 2 ^ k = s at hc hbk hs hz64 hd hbit hmd
    clear hsk hbW hW hb
    by_cases hz : s = 0
    · have hm := hmd hz
      rw [hm] at hJk
      subst hz
      clear hmd hm hsc hbit hd hz64
      gi_wp2
      go_end0
      exact ⟨⟨_, rfl⟩, hJk⟩
    · have hk64 := hz64 hz
      clear hmd hz64
      have hm2 : Int.tmod s 2 = s % 2 := Int.tmod_eq_emod_of_nonneg hs.1
      have hd2 : Int.tdiv s 2 = s / 2 := Int.tdiv_eq_ediv_of_nonneg hs.1
      have hs2 := set_half h0 h1 (k + 1)
      have hwr : IntKind.u64.wrap (set / 2 ^ (k + 1)) = set / 2 ^ (k + 1) := wrap_u64 hs2.1 hs2.2
      have hwk : IntKind.i64.wrap ((k : Int) + 1) = (k : Int) + 1 := by
        unfold IntKind.wrap
        simp [IntKind.bits, IntKind.signed]
        omega
      clear hs2
      by_cases hb1 : s % 2 = 1
      · obtain ⟨fn, tmps, assign, body, hy, hR⟩ := hY _ k wr hJk (by omega) hk64
        gi_wp2
        refine hR.mono ?_
        rintro e W3 ⟨rfl, hJ3, hk3⟩
        have hbk3 : Boxed W3 Bs 23 (.int .u64 s) := hk3.trans hbk
        have hc3 := hbk3.cell
        have hf3 := hbk3.frozen
        clear hR hy hc
        gi_wp2
        gi_region
        all_goals
          gi_wp2
          go_roundw
          case rel =>
            refine ⟨k + 1, by omega, by go_num, ?_, ?_⟩
            · exact hbk3.set _
            · rw [hsc, hbit, decide_eq_true hb1, if_pos rfl]
              exact hJ.drew _ _ (hJ.put _ _ _ hJ3)
          case measure => simp [intOf]; omega
      · have hf := hbk.frozen
        have hb2 : s % 2 = 0 := by omega
        gi_wp2
        refine ⟨(fun f h => by simp at h), ?_⟩
        gi_wp2
        gi_region
        all_goals
          gi_wp2
          go_roundw
          case rel =>
            refine ⟨k + 1, by omega, by go_num, ?_, ?_⟩
            · exact hbk.set _
            · rw [hsc, hbit, decide_eq_false hb1, if_neg (by decide), List.append_nil]
              exact hJ.drew _ _ (hJ.put _ _ _ hJk)
          case measure => simp [intOf]; omega
end Go.Proofs.Ythkppihfdlmhgaa
