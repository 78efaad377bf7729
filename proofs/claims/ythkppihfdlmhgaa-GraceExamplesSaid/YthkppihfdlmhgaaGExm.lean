/- The chapter's example: the list, and what the functions return on it; numbers compared. -/
import Derived.Test.YthkppihfdlmhgaaGCheck
import Derived.Test.YthkppihfdlmhgaaLeast
namespace Go.Proofs.Ythkppihfdlmhgaa
open Go Go.RowKit
set_option linter.unusedVariables false

def exG : List Ev := [⟨1, 0, 1, 3⟩, ⟨2, 1, 3, 8⟩, ⟨3, 2, 1, 3⟩, ⟨4, 0, 2, 3⟩, ⟨5, 1, 4, 8⟩]
def exH : List Ev := [⟨1, 0, 1, 3⟩, ⟨2, 1, 3, 8⟩, ⟨3, 2, 1, 3⟩, ⟨5, 1, 4, 8⟩]
def exJ : List Ev := [⟨1, 0, 1, 3⟩, ⟨2, 1, 3, 1⟩, ⟨3, 2, 1, 3⟩, ⟨5, 1, 4, 1⟩]
def exGC : Array Value := (evs exG).toArray
/-- Decided for a given list. -/
def lateTB (l : List Ev) : Nat → Bool
  | 0 => true
  | n + 1 => lateTB l n && (match l[n]? with | some e => !earB l n e | none => true)
theorem lateTB_to {l : List Ev} : ∀ {n : Nat}, lateTB l n = true → LateTo l n
  | 0, _ => late_zero l
  | n + 1, h => by
    unfold lateTB at h
    simp only [Bool.and_eq_true] at h
    intro j e hj he
    by_cases hjn : j = n
    · subst hjn
      have := h.2
      rw [he] at this
      simpa using this
    · exact lateTB_to h.1 j e (by omega) he
theorem g_ok {l : List Ev} (h : fineB l l.length = true) (h2 : lateTB l l.length = true) : gAt l = 0 ∧ gEr l = 0 := gk_one (gk_at l) (.inr (.inr ⟨fineB_to h, lateTB_to h2, rfl, rfl⟩))
theorem g_early {l : List Ev} {k : Nat} {e : Ev} (h : fineB l l.length = true) (h2 : lateTB l k = true) (he : l[k]? = some e) (hg : earB l k e = true) : gAt l = k ∧ gEr l = 19 :=
  gk_one (gk_at l) (.inr (.inl ⟨fineB_to h, k, e, he, lateTB_to h2, hg, rfl, rfl⟩))
theorem exG_fine : FineTo exG exG.length := fineB_to (by decide)
theorem exG_g : gAt exG = 0 ∧ gEr exG = 0 := g_ok (by decide) (by decide)
theorem exH_g : gAt exH = 3 ∧ gEr exH = 19 := g_early (k := 3) (e := ⟨5, 1, 4, 8⟩) (by decide) (by decide) rfl (by decide)
theorem exJ_g : gAt exJ = 0 ∧ gEr exJ = 0 := g_ok (by decide) (by decide)
theorem exG_er : errL exG = 0 := errL_fine exG_fine
theorem exG_lea : leaL exG = [5] := by unfold leaL; rw [if_pos exG_fine]; decide
theorem exG_mu : muL exG 0 = [⟨0, 3, 1, 4⟩] := by
  rw [show (0 : Int) = ((0 : Nat) : Int) from rfl, muL_some (w := ⟨1, 8, 2, 5⟩) exG_fine (by decide)]
  decide
theorem exG_mue : muEr exG 0 = 0 := muEr_some (j := 0) (w := ⟨1, 8, 2, 5⟩) exG_fine (by decide)
theorem exG_mu1 : muEr exG 1 = 3 := by rw [show (1 : Int) = ((1 : Nat) : Int) from rfl, muEr_none exG_fine (by decide)]
theorem exG_mul1 : muL exG 1 = [] := by rw [show (1 : Int) = ((1 : Nat) : Int) from rfl, muL_none (by decide)]
theorem ovL_ok {l : List Ev} {t s : Int} (hf : FineTo l l.length) (ht : ¬ t < 0) (hs : s ≠ 0) : ovL l t s = (secsK 1 l).filter (dueB t s) := if_pos ⟨hf, ht, hs⟩
theorem ovEr_ok {l : List Ev} {t s : Int} (hf : FineTo l l.length) (ht : ¬ t < 0) (hs : s ≠ 0) : ovEr l t s = 0 := by
  unfold ovEr
  rw [if_pos hf, if_neg ht, if_neg hs]
theorem exG_o4 : (ovL exG 4 8).length = 2 ∧ ovEr exG 4 8 = 0 := ⟨by rw [ovL_ok exG_fine (by decide) (by decide)]; decide, ovEr_ok exG_fine (by decide) (by decide)⟩
theorem exG_o5 : ovL exG 5 8 = [⟨2, 3, 3, -1⟩] ∧ ovEr exG 5 8 = 0 := ⟨by rw [ovL_ok exG_fine (by decide) (by decide)]; decide, ovEr_ok exG_fine (by decide) (by decide)⟩
theorem exG_o1 : ovL exG 1 8 = [] ∧ ovEr exG 1 8 = 0 := ⟨by rw [ovL_ok exG_fine (by decide) (by decide)]; decide, ovEr_ok exG_fine (by decide) (by decide)⟩
theorem exG_o0 : ovL exG 0 0 = [] ∧ ovEr exG 0 0 = 2 := ⟨by unfold ovL; rw [if_neg (fun h => h.2.2 rfl)], by unfold ovEr; rw [if_pos exG_fine, if_neg (by decide), if_pos rfl]⟩
theorem wf_of {l : List Ev} (h : l.all (fun p => decide (p.step ≤ 9223372036854775807) && (decide (0 ≤ p.val) && decide (p.val < 18446744073709551616))) = true) : WfE l := fun p hp => by
  have := List.all_eq_true.1 h p hp
  simpa using this
theorem exG_wf : WfE exG := wf_of (by decide)
theorem exH_wf : WfE exH := wf_of (by decide)
theorem exJ_wf : WfE exJ := wf_of (by decide)
/-- example, whatever the block's number is called. -/
theorem example_at (w : World) (X : Nat) (hX : X = w.heap.size) : Calls Try.prog 14 #[] w fun e w' => e = .returned (.slice (some ⟨X, 0, none⟩) 5 5) ∧ Hid (Reads w' w'.heap.size 4 (some ⟨X, 0, none⟩) 5 (evs exG)) ∧ Hid (Blk w' X 37 exGC) ∧ Below w.heap.size w w' := by
  subst hX
  have h1 := reads_row w 37 (evs exG) 5 (size := 4) rfl
  have h2 := Blk.new w 37 exGC
  have h3 := (Below.refl _ w).alloc (Nat.le_refl _) (.cells exGC 37)
  go_enter Try.func14, Try.ntmps14
  go_wp2_with fail
  go_ret
  exact ⟨rfl, h1, h2, h3⟩
theorem example_any (w : World) : Calls Try.prog 14 #[] w fun e w' => e = .returned (.slice (some ⟨w.heap.size, 0, none⟩) 5 5) ∧ Hid (Reads w' w'.heap.size 4 (some ⟨w.heap.size, 0, none⟩) 5 (evs exG)) ∧ Hid (Blk w' w.heap.size 37 exGC) ∧ Below w.heap.size w w' := example_at w _ rfl

set_option maxHeartbeats 1000000 in
theorem sameInts (l : List Int) (A A' : Option Addr) (n n' c c' : Nat) (w : World) (hr : Hid (Reads w w.heap.size 1 A n (is_ l))) (hr' : Hid (Reads w w.heap.size 1 A' n' (is_ l))) (hn : n ≤ 65536) :
    Calls Try.prog 27 #[.slice A n c, .slice A' n' c'] w fun e w' => e = .returned (.bool true) ∧ Below w.heap.size w w' := by
  obtain rfl : n = n' := by have h1 := hr.out.1; have h2 := hr'.out.1; omega
  go_enter Try.func27, Try.ntmps27
  go_wp2_with fail
  go_loopw [5] (fun i wr => ∃ k : Nat, k ≤ n ∧ i = .int .i64 k ∧ Hid (Below w.heap.size w wr)) (fun i _ => n - (intOf i).toNat)
  case atStart => exact ⟨0, by omega, rfl, Below.refl _ _⟩
  case round =>
    obtain ⟨k, hk, rfl, hbel⟩ := hrel
    by_cases hlt : k < n
    · obtain ⟨ad, u, rfl, _, hx, hc⟩ := (hr.out.below hbel.out).at_ hlt
      obtain ⟨ad', u', rfl, _, hx', hc'⟩ := (hr'.out.below hbel.out).at_ hlt
      obtain rfl : u = u' := Option.some.inj (hx.symm.trans hx')
      obtain ⟨v, hv, rfl⟩ := is_get l k hx
      clear hx hx' hv
      have i0 : (0 : Int) ≤ (k : Int) := by omega
      have i1 : (k : Int) < (n : Int) := by omega
      go_wp2_with fail
      go_quiet (fail)
      go_wp2
      go_roundw
      case rel => exact ⟨k + 1, by omega, by go_num, below_drewN hbel.out _⟩
      case measure => simp [intOf]; omega
    · go_wp2
      go_ret
      exact ⟨rfl, hbel.out⟩
end Go.Proofs.Ythkppihfdlmhgaa
