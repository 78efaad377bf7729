/- The law PicksSame, walked. -/
import Derived.Test.YtjpmhofpfmogiaaAwake
namespace Go.Proofs.Ytjpmhofpfmogiaa
open Go Go.RowKit
set_option linter.unusedVariables false

set_option maxHeartbeats 1000000 in
theorem same_law (a0 p q : Int) (w : World) (w0 : (Lit.int .i64 a0).wf = true) (w1 : (Lit.int .i64 p).wf = true) (w2 : (Lit.int .i64 q).wf = true) :
    Calls Try.prog 7 #[.int .i64 a0, .int .i64 p, .int .i64 q] w fun e w' => e = .returned (.bool true) ∧ Below w.heap.size w w' := by
  have hr := mod_lo 64 a0 (by omega)
  go_enter Try.func7, Try.ntmps7
  go_wp2_with fail
  refine (mod_any a0 64 (by omega) (by omega) _).mono ?_
  rintro e w' ⟨rfl, rfl⟩
  generalize a0 % 64 = r at *
  have h1 : 1 ≤ 1 + r := by omega
  have h2 : 1 + r ≤ 64 := by omega
  have hv : vld (1 + r) = true := by simp [vld]; omega
  have hp := mod_lo (1 + r) p h1
  have hq := mod_lo (1 + r) q h1
  obtain ⟨hp0, hp1⟩ := hp
  obtain ⟨hq0, hq1⟩ := hq
  go_wp2_with fail
  refine (thread_at (1 + r) p (p % (1 + r)) 0 (by rw [hv]; rfl) (by rw [hv]; rfl) _).mono ?_
  rintro e w' ⟨rfl, rfl⟩
  go_wp2_with fail
  refine (thread_at (1 + r) q (q % (1 + r)) 0 (by rw [hv]; rfl) (by rw [hv]; rfl) _).mono ?_
  rintro e w' ⟨rfl, rfl⟩
  go_wp2_with fail
  refine (mod_any p (1 + r) h1 h2 _).mono ?_
  rintro e w' ⟨rfl, rfl⟩
  go_wp2_with fail
  refine (mod_any q (1 + r) h1 h2 _).mono ?_
  rintro e w' ⟨rfl, rfl⟩
  go_wp2_with fail
  refine (mod_any p (1 + r) h1 h2 _).mono ?_
  rintro e w' ⟨rfl, rfl⟩
  go_wp2_with fail
  refine (awake_any _).mono ?_
  rintro e w' ⟨rfl, hb⟩
  go_wp2_with fail
  go_ret
  exact ⟨by simp, hb⟩
end Go.Proofs.Ytjpmhofpfmogiaa
