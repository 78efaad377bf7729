/- Slices of sections, waits, events of one's own; the reference's ends. -/
import Derived.Test.YthkppihfdlmhgaaPairsP
import Derived.Test.YthkppihfdlmhgaaCkE
import Derived.Test.YthkppihfdlmhgaaDraws
import Derived.StillTailTactics
import Derived.Deep.LoopGhost
import Derived.BigRegion
import Derived.Deep.RegionHeld3
namespace Go.Proofs.Ythkppihfdlmhgaa
open Go Go.RowKit
set_option linter.unusedVariables false

theorem infoSec : (Try.prog.info? 43).map (fun i => (i.zero, i.size, i.bytes)) = some (some (.agg #[.int .i64 0, .int .u64 0, .int .i64 0, .int .i64 0]), 4, 32) := by kernel_rfl
theorem infoWait : (Try.prog.info? 74).map (fun i => (i.zero, i.size, i.bytes)) = some (some (.agg #[.int .i64 0, .int .u64 0, .int .i64 0, .int .i64 0]), 4, 32) := by kernel_rfl
theorem infoEv : (Try.prog.info? 37).map (fun i => (i.zero, i.size, i.bytes)) = some (some (.agg #[.int .i64 0, .int .i64 0, .int .u8 0, .int .u64 0]), 4, 32) := by kernel_rfl
theorem secs_one1 (s : Sec) : secs [s] = seC s := by simp [secs]
theorem evs_one1 (s : Ev) : evs [s] = evC s := by simp [evs]
theorem seC_one (s : Sec) : ∀ u ∈ seC s, u.oneCell' = true := by rw [← secs_one1]; exact secs_one _
theorem evC_one (s : Ev) : ∀ u ∈ evC s, u.oneCell' = true := by rw [← evs_one1]; exact evs_one _
theorem own_snocS {w : World} {base n : Nat} {T : TypeId} {v : Value} {os : List Sec} {s : Sec} (h : w.ownsRow base T 4 v (n + 1) (secs os ++ seC s)) : w.ownsRow base T 4 v (n + 1) (secs (os ++ [s])) := by
  rw [secs_append, secs_one1]
  exact h
theorem own_snocE {w : World} {base n : Nat} {T : TypeId} {v : Value} {os : List Ev} {s : Ev} (h : w.ownsRow base T 4 v (n + 1) (evs os ++ evC s)) : w.ownsRow base T 4 v (n + 1) (evs (os ++ [s])) := by
  rw [evs_append, evs_one1]
  exact h

set_option maxHeartbeats 2000000 in
theorem ends_any (l : List Ev) (A : Option Addr) (n c k : Nat) (x : Ev) (w : World) (hr : Hid (Reads w w.heap.size 4 A n (evs l))) (hn : n ≤ 65536) (hx : l[k]? = some x) :
    Calls Try.prog 38 #[.slice A n c, .int .i64 k] w (fun e w' => e = .returned (.int .i64 (nextOf x.thread (l.drop (k + 1)))) ∧ ∃ q, w' = w.drewN q) := by
  have hl := Lib.hid (evs_n hr.out)
  have hkn : k < n := by rw [← hl.out]; exact (List.getElem?_eq_some_iff.1 hx).1
  obtain ⟨b, o, rfl, hbB⟩ := reads_head hr.out (by omega) (by decide)
  obtain ⟨e', he0, c0, c1, c2, c3⟩ := ev_at hr.out hkn
  obtain rfl : x = e' := Option.some.inj (hx.symm.trans he0)
  obtain ⟨es, et, ek, ev⟩ := x
  clear hx he0
  dsimp only at c0 c1 c2 c3 ⊢
  have k0 : (0 : Int) ≤ (k : Int) := by omega
  have k1 : (k : Int) < (n : Int) := by omega
  go_enter Try.func38, Try.ntmps38
  go_wp2_with fail
  go_loopg [5] (n - (k + 1)) (fun g i wr => ∃ (m q : Nat), m + g = n ∧ i = .int .i64 m ∧ wr = w.drewN q ∧ Hid (nextOf et (l.drop (k + 1)) = nextOf et (l.drop m)))
  case atStart => exact ⟨k + 1, 0, by omega, by go_num, rfl, rfl⟩
  case round =>
    obtain ⟨m, q, hm, rfl, rfl, hN⟩ := hrel
    cases gk with
    | zero =>
      obtain rfl : m = n := by omega
      have hz : nextOf et (l.drop m) = -1 := by rw [List.drop_of_length_le (by rw [hl.out]; exact Nat.le_refl _)]; rfl
      have hN2 := Lib.hid (hN.out.trans hz)
      clear hz hN
      go_wp2_with fail
      go_ret
      exact ⟨congrArg (fun z => Ending.returned (Value.int .i64 z)) hN2.out.symm, q, rfl⟩
    | succ g =>
      obtain ⟨⟨ms, mt, mk, mv⟩, hem, d0, d1, d2, d3⟩ := ev_at hr.out (show m < n by omega)
      dsimp only at d0 d1 d2 d3
      have m0 : (0 : Int) ≤ (m : Int) := by omega
      have m1 : (m : Int) < (n : Int) := by omega
      have hd := nextOf_drop (t := et) hem
      dsimp only at hd
      by_cases hmt : mt = et
      · rw [if_pos hmt] at hd
        have hN2 := Lib.hid (hN.out.trans hd)
        subst hmt
        clear hem hd hN
        go_wp2_with fail
        go_quiet (fail)
        go_wp2_with fail
        go_ret
        exact ⟨congrArg (fun z => Ending.returned (Value.int .i64 z)) hN2.out.symm, _, rfl⟩
      · rw [if_neg hmt] at hd
        have hN2 := Lib.hid (hN.out.trans hd)
        clear hem hd hN
        go_wp2_with fail
        go_quiet (fail)
        go_wp2_with fail
        go_roundg g
        case measure => omega
        case rel => exact ⟨m + 1, _, by omega, by go_num, rfl, hN2⟩
end Go.Proofs.Ythkppihfdlmhgaa
