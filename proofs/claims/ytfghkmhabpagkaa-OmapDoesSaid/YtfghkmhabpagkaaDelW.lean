/- plan.Delete and the fixed plan, walked. -/
import Derived.Test.YtfghkmhabpagkaaDel
namespace Go.Proofs.Ytfghkmhabpagkaa
open Go Go.RowKit
set_option linter.unusedVariables false

def delC (p : Pr) : Chg := ⟨p.key, true, p.val, false, 0⟩
def dels (l : List Pr) : List Chg := l.map delC
theorem dels_take {l : List Pr} {k : Nat} {p : Pr} (h : l[k]? = some p) : dels (l.take (k + 1)) = dels (l.take k) ++ [delC p] := by
  unfold dels
  rw [List.take_add_one, h, List.map_append]
  rfl
theorem chC_one' (c : Chg) : ∀ u ∈ chC c, u.oneCell' = true := by rw [← chs_one1]; exact chs_one _

def KnownEnd (w : World) (e : Ending) (w' : World) : Prop := e = .returned (.bool true) ∧ Below w.heap.size w w'
theorem known_plan : Asc [⟨4, 2⟩, ⟨6, 3⟩] ∧ inR 5 9 [⟨4, 2⟩, ⟨6, 3⟩] = [⟨6, 3⟩] := by
  constructor
  · refine srt_of_next fun i a b ha hb => ?_
    rcases i with _ | i
    · obtain rfl := Option.some.inj ha
      obtain rfl := Option.some.inj hb
      decide
    · simp at hb
  · rfl
end Go.Proofs.Ytfghkmhabpagkaa
