/- The laws' fixed map: known. -/
import Derived.Test.YtfghkmhabpagkaaMade
namespace Go.Proofs.Ytfghkmhabpagkaa
open Go Go.RowKit
set_option linter.unusedVariables false

set_option maxRecDepth 100000 in
set_option maxHeartbeats 4000000 in
theorem known_any (w : World) : Calls Try.prog 12 #[] w fun e w' => e = .returned (.bool true) ∧ Below w.heap.size w w' := by
  obtain ⟨W, hW⟩ : ∃ W, w.alloc (.cells #[.int .u64 4, .int .u64 2] 38) = W := ⟨_, rfl⟩
  have hb0 : Hid (Below w.heap.size w W) := by rw [← hW]; exact (Below.refl _ _).alloc (Nat.le_refl _) _
  have hr0 : Hid (Reads W W.heap.size 2 (some ⟨w.heap.size, 0, none⟩) 1 (prs [⟨4, 2⟩])) := by rw [← hW]; exact reads_at w 38 (prs [⟨4, 2⟩]) 1 _ rfl rfl
  go_enter Try.func12, Try.ntmps12
  go_wp2_with fail
  try rw [hW]
  clear hW
  refine (newO_any [⟨4, 2⟩] (some ⟨w.heap.size, 0, none⟩) 1 1 W hr0 (by omega)).mono ?_
  rintro e w1 ⟨hb, ⟨_, g, v, rfl, ho⟩ | ⟨hn, _⟩⟩
  · have h1 : Hid (MapAt W w1 g v [⟨4, 2⟩]) := ⟨ho, hb⟩
    clear ho hb hr0
    go_wp2_with fail
    refine (moveM 4 4 3 w1 h1 (by decide) (by decide) (by decide) (by decide) (by decide) (by decide) (by decide)).mono ?_
    rintro e w2 ⟨rfl, v2, h2, _⟩
    have h2 : Hid (MapAt W w2 g v2 [⟨7, 2⟩]) := h2
    clear h1
    go_wp2_with fail
    refine (getM 7 w2 h2).mono ?_
    rintro e w3 ⟨hE, hb⟩
    have hE : e = .returned (.tuple #[.int .u64 2, .bool true]) := hE
    subst hE
    have h3 := mapAt_on h2 hb
    clear h2 hb
    go_wp2_with fail
    refine (lenM w3 h3).mono ?_
    rintro e w4 ⟨rfl, hb⟩
    have h4 := mapAt_on h3 hb
    have hbe := below_on hb0 h4.out.bel
    clear h3 hb
    go_wp2_with fail
    go_ret
    exact ⟨rfl, hbe.out⟩
  · refine absurd (dist_noDup (l := [⟨4, 2⟩]) (fun i j p q hij hi hj => ?_) _) hn
    have := (List.getElem?_eq_some_iff.1 hj).1
    simp at this
    omega
end Go.Proofs.Ytfghkmhabpagkaa
