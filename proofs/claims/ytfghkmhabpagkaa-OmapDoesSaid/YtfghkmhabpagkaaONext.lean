/- The program's map, walked: Next. -/
import Derived.Test.YtfghkmhabpagkaaORng
namespace Go.Proofs.Ytfghkmhabpagkaa
open Go Go.RowKit
set_option linter.unusedVariables false

theorem results_cell3 {P : Program} {fn : Func} {p u v : Tmp} {ty : TypeId} (h : fn.results = #[.cell p ty, .tmp u, .tmp v]) (tmps : Array Value) (w : World) (g : Nat) (t : TypeId) (cs : Array Value) (fr : Nat × Nat) (d : TypeDesc)
    (hp : tmps.getD p undef = .pointer (some ⟨g, 0, none⟩)) (hg : w.heap[g]? = some (.cells cs t fr))
    (hu : P.underlying ty = some d) (hd : (match d with | .struct _ | .array _ _ => true | _ => false) = true) (hi : (P.info? ty).map (·.size) = some cs.size) :
    (results fn tmps).run P w = .ok (.tuple #[.agg cs, tmps.getD u undef, tmps.getD v undef]) w := by
  have hp' : tmps[p]?.getD undef = .pointer (some ⟨g, 0, none⟩) := by simpa using hp
  simp [results, h, hp', asAddr, run_loadVar_row w g t ty cs fr d hg hu hd hi, Result.andThen]
theorem set2P {w : World} {g : Nat} {T : TypeId} {a0 a1 u0 u1 : Value} (h : Blk w g T #[a0, a1]) : Blk ((w.setCell ⟨g, 0, none⟩ u0).setCell ⟨g, 1, none⟩ u1) g T #[u0, u1] := (h.set_ 0 u0).set_ 1 u1
def pC : Option Pr → Array Value
  | some p => #[.int .u64 p.key, .int .u64 p.val]
  | none => #[.int .u64 0, .int .u64 0]
theorem ends_first {l : List Pr} {lo hi : Int} {a T : Nat} (hE : Ends l lo hi a T) (h : a < T) : (inR lo hi l).head? = l[a]? := by
  obtain ⟨h1, h2, h3, _⟩ := hE
  rw [← h3, List.head?_eq_getElem?, List.getElem?_take, if_pos (by omega), List.getElem?_drop]
  rfl
theorem ends_none {l : List Pr} {lo hi : Int} {a T : Nat} (hE : Ends l lo hi a T) (h : ¬ a < T) : (inR lo hi l).head? = none := by
  obtain ⟨h1, h2, h3, _⟩ := hE
  have : inR lo hi l = [] := by
    rw [← h3, show T - a = 0 by omega]
    rfl
  rw [this]
  rfl
set_option maxRecDepth 100000 in
set_option maxHeartbeats 4000000 in
theorem nextM {B : World} {g : Nat} {v : Value} {l : List Pr} (lo hi : Int) (w : World) (h : Hid (MapAt B w g v l)) (hlh : lo ≤ hi) :
    Calls Try.prog 26 #[.pointer (some ⟨g, 0, none⟩), .agg #[.int .u64 lo, .int .u64 hi]] w fun e w' => e = .returned (.tuple #[.agg (pC (inR lo hi l).head?), .bool (inR lo hi l).head?.isSome, .int .i64 0]) ∧ Below w.heap.size w w' := by
  obtain ⟨W, hW⟩ : ∃ W, (w.alloc (.cells #[.int .u64 lo, .int .u64 hi] 25)).alloc (.cells #[.int .u64 0, .int .u64 0] 38) = W := ⟨_, rfl⟩
  have hb0 : Hid (Below w.heap.size w W) := by rw [← hW]; exact ((Below.refl _ _).alloc (Nat.le_refl _) _).alloc (by simp) _
  have hBp : Hid (Blk W (w.heap.size + 1) 38 #[.int .u64 0, .int .u64 0]) := by rw [← hW]; exact Blk.new1 w _ _ _
  have hBs : Blk W w.heap.size 25 #[.int .u64 lo, .int .u64 hi] := by rw [← hW]; exact (Blk.new w _ _).alloc _
  have hs0 : W.cell? ⟨w.heap.size, 0, none⟩ = some (.int .u64 lo) := by simpa using hBs.cell 0
  have hs1 : W.cell? ⟨w.heap.size, 1, none⟩ = some (.int .u64 hi) := by simpa using hBs.cell 1
  have hc := ends_ok l g lo hi W (Lib.hid (h.out.o.below hb0.out).q) (Lib.hid h.out.o.srt) hlh
  clear hBs
  go_enter Try.func26, Try.ntmps26
  go_wp2_with fail
  refine hc.mono ?_
  rintro e w1 ⟨a, T, rfl, hE, hb⟩
  have hb1 := below_on hb0 hb
  have ho1 := Lib.hid (h.out.o.below hb1.out)
  have hB1 := Lib.hid (hBp.out.below hb hBp.out.lt)
  have q0 := hB1.out.cell 0
  have q1 := hB1.out.cell 1
  have f0 := hB1.out.frozen 0
  have f1 := hB1.out.frozen 1
  simp only [List.getElem?_toArray, List.getElem?_cons_zero, List.getElem?_cons_succ] at q0 q1
  have hEh := Lib.hid hE
  by_cases hat : a < T
  · have hf := ends_first hE hat
    have hal : a < l.length := by have := hE.2.1; omega
    obtain ⟨A, c, rfl, hnc, hcm⟩ := own_form ho1.out.own
    have hr1 := Reads.of_own ho1.out.own
    obtain ⟨b, o, rfl, hbB⟩ := reads_head hr1 (by omega) (by decide)
    obtain ⟨⟨pk, pv⟩, hx, p0, p1⟩ := prs_at hr1 hal
    rw [hx] at hf
    have hg : w1.cell? ⟨g, 0, none⟩ = some (.slice (some ⟨b, o, none⟩) l.length c) := by simpa using ho1.out.blk.cell 0
    have e1 : ((a : Int) == (T : Int)) = false := by simp; omega
    have e2 : (0 : Int) ≤ (a : Int) := by omega
    have e3 : (a : Int) < (l.length : Int) := by omega
    dsimp only at p0 p1
    have hbe : Hid (Below w.heap.size w ((w1.setCell ⟨w.heap.size + 1, 0, none⟩ (.int .u64 pk)).setCell ⟨w.heap.size + 1, 1, none⟩ (.int .u64 pv))) := (hb1.out.setCell (p := ⟨w.heap.size + 1, 0, none⟩) (by show w.heap.size ≤ w.heap.size + 1; omega) _).setCell (p := ⟨w.heap.size + 1, 1, none⟩) (by show w.heap.size ≤ w.heap.size + 1; omega) _
    have hff := Lib.hid hf
    generalize hn : l.length = n at *
    clear hc hb hE hEh ho1 hr1 hx hf hW hal hs0 hs1
    go_wp2_with fail
    refine bodyPost_ret (results_cell3 rfl _ _ (w.heap.size + 1) 38 _ (0, 0) _ rfl (set2P hB1.out) Try.underlying38 rfl (by kernel_rfl)) rfl ?_
    exact ⟨by rw [hff.out]; rfl, hbe.out⟩
  · have hf := ends_none hE hat
    have e0 : a = T := by have := hE.1; omega
    have e1 : ((a : Int) == (T : Int)) = true := by simp; omega
    have hbe : Hid (Below w.heap.size w ((w1.setCell ⟨w.heap.size + 1, 0, none⟩ (.int .u64 0)).setCell ⟨w.heap.size + 1, 1, none⟩ (.int .u64 0))) := (hb1.out.setCell (p := ⟨w.heap.size + 1, 0, none⟩) (by show w.heap.size ≤ w.heap.size + 1; omega) _).setCell (p := ⟨w.heap.size + 1, 1, none⟩) (by show w.heap.size ≤ w.heap.size + 1; omega) _
    have hff := Lib.hid hf
    clear hc hb hE hEh hf hW hs0 hs1
    go_wp2_with fail
    refine bodyPost_ret (results_cell3 rfl _ _ (w.heap.size + 1) 38 _ (0, 0) _ rfl (set2P hB1.out) Try.underlying38 rfl (by kernel_rfl)) rfl ?_
    exact ⟨by rw [hff.out]; rfl, hbe.out⟩
end Go.Proofs.Ytfghkmhabpagkaa
