/- plan.Apply, walked (printed by gen_app.py). -/
import Derived.Test.YtfghkmhabpagkaaAppM
import Derived.Test.YtfghkmhabpagkaaDel
import Derived.Test.YtfghkmhabpagkaaThenW
namespace Go.Proofs.Ytfghkmhabpagkaa
open Go Go.RowKit
set_option linter.unusedVariables false

def putL (c : Chg) : List Pr := if c.is = true then [⟨c.key, c.new⟩] else []
theorem putC_L (c : Chg) (r : List Pr) : putC c r = putL c ++ r := by
  unfold putC putL
  split <;> rfl
theorem appIn_cons (c : Chg) (f : List Pr → Option (List Pr)) (p : Pr) (ps : List Pr) : appIn c f (p :: ps) =
    if p.key < c.key then (appIn c f ps).map (p :: ·)
    else if p.key = c.key then (if c.was = true ∧ p.val = c.old then (f ps).map (putC c) else none)
    else if c.was = true then none else (f (p :: ps)).map (putC c) := rfl
theorem map_put (c : Chg) (os : List Pr) (t : Option (List Pr)) : (t.map (putC c)).map (os ++ ·) = t.map ((os ++ putL c) ++ ·) := by
  rw [Option.map_map]
  congr 1
  funext r
  simp [putC_L]
section
variable {T : Option (List Pr)} {c : Chg} {p : Pr} {f : List Pr → Option (List Pr)} {ps os : List Pr} {i : Nat}
theorem app_less (h : T = (appIn c f (ps.drop i)).map (os ++ ·)) (hp : ps[i]? = some p) (hk : p.key < c.key) : T = (appIn c f (ps.drop (i + 1))).map ((os ++ [p]) ++ ·) := by
  rw [h, drop_get hp, appIn_cons, if_pos hk, Option.map_map]
  congr 1
  funext r
  simp
theorem app_end_no (h : T = (appIn c f (ps.drop i)).map (os ++ ·)) (hi : ps.length ≤ i) (hw : c.was = true) : T = none := by
  rw [h, List.drop_of_length_le hi, appIn, if_pos hw]
  rfl
theorem app_end (h : T = (appIn c f (ps.drop i)).map (os ++ ·)) (hi : ps.length ≤ i) (hw : c.was = false) : T = (f (ps.drop i)).map ((os ++ putL c) ++ ·) := by
  rw [h, List.drop_of_length_le hi, appIn, if_neg (by simp [hw]), map_put]
theorem app_more_no (h : T = (appIn c f (ps.drop i)).map (os ++ ·)) (hp : ps[i]? = some p) (hk : c.key < p.key) (hw : c.was = true) : T = none := by
  rw [h, drop_get hp, appIn_cons, if_neg (by omega), if_neg (by omega), if_pos hw]
  rfl
theorem app_more (h : T = (appIn c f (ps.drop i)).map (os ++ ·)) (hp : ps[i]? = some p) (hk : c.key < p.key) (hw : c.was = false) : T = (f (ps.drop i)).map ((os ++ putL c) ++ ·) := by
  rw [h, drop_get hp, appIn_cons, if_neg (by omega), if_neg (by omega), if_neg (by simp [hw]), map_put]
theorem app_eq (h : T = (appIn c f (ps.drop i)).map (os ++ ·)) (hp : ps[i]? = some p) (hk : p.key = c.key) (hw : c.was = true ∧ p.val = c.old) : T = (f (ps.drop (i + 1))).map ((os ++ putL c) ++ ·) := by
  rw [h, drop_get hp, appIn_cons, if_neg (by omega), if_pos hk, if_pos hw, map_put]
theorem app_eq_no (h : T = (appIn c f (ps.drop i)).map (os ++ ·)) (hp : ps[i]? = some p) (hk : p.key = c.key) (hw : ¬ (c.was = true ∧ p.val = c.old)) : T = none := by
  rw [h, drop_get hp, appIn_cons, if_neg (by omega), if_pos hk, if_neg hw]
  rfl
end
/-- An owned list of pairs, one longer. -/
theorem own_snocP {w : World} {base n : Nat} {v : Value} {os : List Pr} {p : Pr} (h : w.ownsRow base 38 2 v (n + 1) (prs os ++ prC p)) : w.ownsRow base 38 2 v (n + 1) (prs (os ++ [p])) := by
  rw [prs_append, prs_one1]
  exact h

/-- What Apply returns. -/
def AppEnd (ps : List Pr) (l : List Chg) (w : World) (e : Ending) (w' : World) : Prop :=
  (¬ (Asc ps ∧ Plan l) → e = .returned (.tuple #[.slice none 0 0, .int .i64 2])) ∧ (Asc ps ∧ Plan l → app l ps = none → e = .returned (.tuple #[.slice none 0 0, .int .i64 8])) ∧
  (Asc ps ∧ Plan l → ∀ r, app l ps = some r → ∃ A c, e = .returned (.tuple #[.slice A r.length c, .int .i64 0]) ∧ w'.ownsRow w.heap.size 38 2 (.slice A r.length c) r.length (prs r)) ∧ Below w.heap.size w w'

end Go.Proofs.Ytfghkmhabpagkaa
