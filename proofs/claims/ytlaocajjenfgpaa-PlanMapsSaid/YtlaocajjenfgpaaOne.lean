/- The law's plan of one move or deletion, walked; what it leads to. -/
import Derived.Test.YtlaocajjenfgpaaLawMoves
import Derived.Test.YtlaocajjenfgpaaLawApp
import Derived.Test.YtlaocajjenfgpaaChainM
namespace Go.Proofs.Ytlaocajjenfgpaa
open Go Go.RowKit
set_option linter.unusedVariables false

noncomputable def oneL (lo hi by_ : Int) (ps : List Pr) : List Chg := if by_ = 0 then (outD lo hi ps).1 else (outM lo hi by_ ps).1
theorem oneL_len (lo hi by_ : Int) (ps : List Pr) : (oneL lo hi by_ ps).length ≤ 2 * ps.length := by
  unfold oneL
  have h1 := outD_len lo hi ps
  have h2 := outM_len lo hi by_ ps
  split <;> omega
theorem oneL_leads (lo hi by_ : Int) {ps : List Pr} (h : Asc ps) : ∃ q, Leads ps (oneL lo hi by_ ps) q := by
  unfold oneL
  split
  · by_cases h1 : hi < lo
    · rw [outD_bad h h1]
      exact ⟨ps, Leads.nil h⟩
    · rw [outD_ok h h1]
      exact Leads.of_mv h (mv_nil_spec lo hi ps h)
  · rename_i h0
    by_cases h1 : hi < lo
    · rw [outM_bad h h1]
      exact ⟨ps, Leads.nil h⟩
    · by_cases h2 : 18446744073709551615 - hi < by_
      · rw [outM_over h (by omega) h0 h2]
        exact ⟨ps, Leads.nil h⟩
      · rw [outM_ok h (by omega) h0 h2]
        exact Leads.of_mv h (mv_spec lo hi _ ps (srt_sh by_ (srt_in h)) h)
theorem Leads.len {ps q : List Pr} {l : List Chg} (h : Leads ps l q) : q.length ≤ ps.length + l.length := app_le h.plan h.app

def OneEnd (lo hi by_ : Int) (ps : List Pr) (w : World) (e : Ending) (w' : World) : Prop :=
  ∃ A c, e = .returned (.slice A (oneL lo hi by_ ps).length c) ∧ w'.ownsRow w.heap.size 37 5 (.slice A (oneL lo hi by_ ps).length c) (oneL lo hi by_ ps).length (chs (oneL lo hi by_ ps)) ∧ Below w.heap.size w w'
set_option maxRecDepth 100000 in
set_option maxHeartbeats 1000000 in
theorem one_any (ps : List Pr) (A : Option Addr) (n c : Nat) (lo hi by_ : Int) (w : World) (hr : Hid (Reads w w.heap.size 2 A n (prs ps))) (hn : n ≤ 100000)
    (wlo : (Lit.int .u64 lo).wf = true) (whi : (Lit.int .u64 hi).wf = true) (wby : (Lit.int .u64 by_).wf = true) :
    Calls Try.prog 31 #[.slice A n c, .agg #[.int .u64 lo, .int .u64 hi], .int .u64 by_] w (OneEnd lo hi by_ ps w) := by
  have hr1 : Hid (Reads (w.alloc (.cells #[.int .u64 lo, .int .u64 hi] 25)) (w.alloc (.cells #[.int .u64 lo, .int .u64 hi] 25)).heap.size 2 A n (prs ps)) := (hr.out.alloc (Nat.le_refl _) _).more (by simp)
  have hWF := Lib.hid (And.intro wlo (And.intro whi wby))
  clear wlo whi wby
  by_cases h0 : by_ = 0
  · have hL : Hid (oneL lo hi by_ ps = (outD lo hi ps).1) := by unfold Hid oneL; rw [if_pos h0]
    subst h0
    have hd : ((0 : Int) == 0) = true := rfl
    go_enter Try.func31, Try.ntmps31
    go_wp2_with fail
    refine (delete_any ps A n c lo hi _ hr1 (by omega)).mono ?_
    rintro e w2 h
    obtain ⟨A2, c2, rfl, ho, hb⟩ := delOut h
    have hb2 : Hid (Below w.heap.size w w2) := ((Below.refl _ _).alloc (Nat.le_refl _) _).trans (hb.mono (by simp))
    have hO := Lib.hid (own_base ho (show w.heap.size ≤ _ by simp))
    clear h ho hb
    go_wp2_with fail
    go_ret
    unfold OneEnd
    rw [hL.out]
    exact ⟨A2, c2, rfl, hO.out, hb2.out⟩
  · have hL : Hid (oneL lo hi by_ ps = (outM lo hi by_ ps).1) := by unfold Hid oneL; rw [if_neg h0]
    have hd : (by_ == 0) = false := by simpa using h0
    clear h0
    go_enter Try.func31, Try.ntmps31
    go_wp2_with fail
    refine (move_any ps A n c lo hi by_ _ hr1 hn hWF.out.1 hWF.out.2.1 hWF.out.2.2).mono ?_
    rintro e w2 ⟨A2, c2, rfl, ho, hb⟩
    have hb2 : Hid (Below w.heap.size w w2) := ((Below.refl _ _).alloc (Nat.le_refl _) _).trans (hb.mono (by simp))
    have hO := Lib.hid (own_base ho (show w.heap.size ≤ _ by simp))
    clear ho hb
    go_wp2_with fail
    go_ret
    unfold OneEnd
    rw [hL.out]
    exact ⟨A2, c2, rfl, hO.out, hb2.out⟩
end Go.Proofs.Ytlaocajjenfgpaa
