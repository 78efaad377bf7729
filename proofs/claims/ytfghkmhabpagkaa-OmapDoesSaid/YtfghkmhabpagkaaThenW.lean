/- plan.Then, walked. -/
import Derived.Test.YtfghkmhabpagkaaInv
import Derived.Test.YtfghkmhabpagkaaThenM
import Derived.Test.YtfghkmhabpagkaaDraws
namespace Go.Proofs.Ytfghkmhabpagkaa
open Go Go.RowKit
set_option linter.unusedVariables false

theorem drop_get {α : Type} {l : List α} {k : Nat} {x : α} (h : l[k]? = some x) : l.drop k = x :: l.drop (k + 1) := by
  obtain ⟨h1, rfl⟩ := List.getElem?_eq_some_iff.1 h
  exact List.drop_eq_getElem_cons h1
theorem thnIn_cons (c : Chg) (f : List Chg → Option (List Chg)) (d : Chg) (b : List Chg) : thnIn c f (d :: b) =
    if d.key < c.key then (thnIn c f b).map (d :: ·)
    else if d.key = c.key then (if Meet c d then (f b).map (fun r => if (c.was || d.is) = true then joinC c d :: r else r) else none)
    else (f (d :: b)).map (c :: ·) := rfl
section
variable {T : Option (List Chg)} {c d : Chg} {f : List Chg → Option (List Chg)} {b os : List Chg} {k : Nat}
theorem then_less (h : T = (thnIn c f (b.drop k)).map (os ++ ·)) (hd : b[k]? = some d) (hk : d.key < c.key) : T = (thnIn c f (b.drop (k + 1))).map ((os ++ [d]) ++ ·) := by
  rw [h, drop_get hd, thnIn_cons, if_pos hk, Option.map_map]
  congr 1
  funext r
  simp
theorem then_out (h : T = (thnIn c f (b.drop k)).map (os ++ ·)) (hk : b.length ≤ k) : T = (f (b.drop k)).map ((os ++ [c]) ++ ·) := by
  rw [h, List.drop_of_length_le hk]
  unfold thnIn
  rw [Option.map_map]
  congr 1
  funext r
  simp
theorem then_more (h : T = (thnIn c f (b.drop k)).map (os ++ ·)) (hd : b[k]? = some d) (hk : c.key < d.key) : T = (f (b.drop k)).map ((os ++ [c]) ++ ·) := by
  rw [h, drop_get hd, thnIn_cons, if_neg (by omega), if_neg (by omega), Option.map_map]
  congr 1
  funext r
  simp
theorem then_join (h : T = (thnIn c f (b.drop k)).map (os ++ ·)) (hd : b[k]? = some d) (hk : d.key = c.key) (hm : Meet c d) (hw : (c.was || d.is) = true) : T = (f (b.drop (k + 1))).map ((os ++ [joinC c d]) ++ ·) := by
  rw [h, drop_get hd, thnIn_cons, if_neg (by omega), if_pos hk, if_pos hm, Option.map_map]
  congr 1
  funext r
  simp [hw]
theorem then_gone (h : T = (thnIn c f (b.drop k)).map (os ++ ·)) (hd : b[k]? = some d) (hk : d.key = c.key) (hm : Meet c d) (hw : (c.was || d.is) = false) : T = (f (b.drop (k + 1))).map (os ++ ·) := by
  rw [h, drop_get hd, thnIn_cons, if_neg (by omega), if_pos hk, if_pos hm, Option.map_map]
  congr 1
  funext r
  simp [hw]
theorem then_clash (h : T = (thnIn c f (b.drop k)).map (os ++ ·)) (hd : b[k]? = some d) (hk : d.key = c.key) (hm : ¬ Meet c d) : T = none := by
  rw [h, drop_get hd, thnIn_cons, if_neg (by omega), if_pos hk, if_neg hm]
  rfl
end

theorem chC_one (c : Chg) : ∀ u ∈ chC c, u.oneCell' = true := by rw [← chs_one1]; exact chs_one _
end Go.Proofs.Ytfghkmhabpagkaa
