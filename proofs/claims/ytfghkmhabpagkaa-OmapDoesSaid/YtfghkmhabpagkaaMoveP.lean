/- plan.Move: the steps of its lists, in plain Lean; how it ends. -/
import Derived.Test.YtfghkmhabpagkaaMoveM
import Derived.Test.YtfghkmhabpagkaaThenW
import Derived.Test.YtfghkmhabpagkaaApp
import Derived.Deep.LoopGhost
namespace Go.Proofs.Ytfghkmhabpagkaa
open Go Go.RowKit
set_option linter.unusedVariables false

theorem mvIn_cons (lo hi : Int) (t : Pr) (f : List Pr → List Chg) (p : Pr) (ps : List Pr) : mvIn lo hi t f (p :: ps) =
    if p.key < t.key then (if inB lo hi p.key = true then delC p :: mvIn lo hi t f ps else mvIn lo hi t f ps)
    else if p.key = t.key then ⟨p.key, true, p.val, true, t.val⟩ :: f ps
    else ⟨t.key, false, 0, true, t.val⟩ :: f (p :: ps) := rfl
section
variable {T os : List Chg} {lo hi : Int} {t p : Pr} {f : List Pr → List Chg} {ps ts : List Pr} {i n : Nat}
theorem mv_open (h : T = os ++ mv lo hi (ts.drop n) (ps.drop i)) (ht : ts[n]? = some t) : T = os ++ mvIn lo hi t (mv lo hi (ts.drop (n + 1))) (ps.drop i) := by
  rw [h, drop_get ht]
  rfl
theorem mv_last (h : T = os ++ mv lo hi (ts.drop n) (ps.drop i)) (hn : ts.length ≤ n) : T = os ++ dels (inR lo hi (ps.drop i)) := by
  rw [h, List.drop_of_length_le hn]
  rfl
theorem mv_del (h : T = os ++ mvIn lo hi t f (ps.drop i)) (hp : ps[i]? = some p) (hk : p.key < t.key) (hb : inB lo hi p.key = true) : T = (os ++ [delC p]) ++ mvIn lo hi t f (ps.drop (i + 1)) := by
  rw [h, drop_get hp, mvIn_cons, if_pos hk, if_pos hb]
  simp
theorem mv_pass (h : T = os ++ mvIn lo hi t f (ps.drop i)) (hp : ps[i]? = some p) (hk : p.key < t.key) (hb : inB lo hi p.key = false) : T = os ++ mvIn lo hi t f (ps.drop (i + 1)) := by
  rw [h, drop_get hp, mvIn_cons, if_pos hk, if_neg (by simp [hb])]
theorem mv_swap (h : T = os ++ mvIn lo hi t f (ps.drop i)) (hp : ps[i]? = some p) (hk : p.key = t.key) : T = (os ++ [⟨p.key, true, p.val, true, t.val⟩]) ++ f (ps.drop (i + 1)) := by
  rw [h, drop_get hp, mvIn_cons, if_neg (by omega), if_pos hk]
  simp
theorem mv_birth (h : T = os ++ mvIn lo hi t f (ps.drop i)) (hp : ps[i]? = some p) (hk : t.key < p.key) : T = (os ++ [⟨t.key, false, 0, true, t.val⟩]) ++ f (ps.drop i) := by
  rw [h, drop_get hp, mvIn_cons, if_neg (by omega), if_neg (by omega)]
  simp
theorem mv_birth_end (h : T = os ++ mvIn lo hi t f (ps.drop i)) (hi : ps.length ≤ i) : T = (os ++ [⟨t.key, false, 0, true, t.val⟩]) ++ f (ps.drop i) := by
  rw [h, List.drop_of_length_le hi]
  simp [mvIn]
theorem dl_del (h : T = os ++ dels (inR lo hi (ps.drop i))) (hp : ps[i]? = some p) (hb : inB lo hi p.key = true) : T = (os ++ [delC p]) ++ dels (inR lo hi (ps.drop (i + 1))) := by
  rw [h, drop_get hp]
  unfold inR
  rw [List.filter_cons, if_pos hb]
  simp [dels]
theorem dl_pass (h : T = os ++ dels (inR lo hi (ps.drop i))) (hp : ps[i]? = some p) (hb : inB lo hi p.key = false) : T = os ++ dels (inR lo hi (ps.drop (i + 1))) := by
  rw [h, drop_get hp]
  unfold inR
  rw [List.filter_cons, if_neg (by simp [hb])]
theorem dl_end (h : T = os ++ dels (inR lo hi (ps.drop i))) (hi : ps.length ≤ i) : T = os := by
  rw [h, List.drop_of_length_le hi]
  simp [inR, dels]
end
theorem sh_get {by_ : Int} {l : List Pr} {n : Nat} {m : Pr} (h : l[n]? = some m) : (l.map (shP by_))[n]? = some (shP by_ m) := by rw [List.getElem?_map, h]; rfl
/-- The keys of a range, moved within the numbers. -/
theorem in_bd {lo hi by_ : Int} {l : List Pr} {p : Pr} (h : p ∈ inR lo hi l) : lo ≤ p.key ∧ p.key ≤ hi := by
  have := (List.mem_filter.1 h).2
  simpa [inB] using this

/-- The changes of a move, and its error. -/
noncomputable def outM (lo hi by_ : Int) (ps : List Pr) : List Chg × Int :=
  open Classical in
  if Asc ps then (if hi < lo then ([], 13) else if by_ = 0 then ([], 13) else if 18446744073709551615 - hi < by_ then ([], 12) else (mv lo hi ((inR lo hi ps).map (shP by_)) ps, 0)) else ([], 2)
theorem outM_no {lo hi by_ : Int} {ps : List Pr} (h : ¬ Asc ps) : outM lo hi by_ ps = ([], 2) := by unfold outM; rw [if_neg h]
theorem outM_bad {lo hi by_ : Int} {ps : List Pr} (h : Asc ps) (h1 : hi < lo) : outM lo hi by_ ps = ([], 13) := by unfold outM; rw [if_pos h, if_pos h1]
theorem outM_zero {lo hi : Int} {ps : List Pr} (h : Asc ps) (h1 : lo ≤ hi) : outM lo hi 0 ps = ([], 13) := by unfold outM; rw [if_pos h, if_neg (by omega), if_pos rfl]
theorem outM_over {lo hi by_ : Int} {ps : List Pr} (h : Asc ps) (h1 : lo ≤ hi) (h2 : by_ ≠ 0) (h3 : 18446744073709551615 - hi < by_) : outM lo hi by_ ps = ([], 12) := by unfold outM; rw [if_pos h, if_neg (by omega), if_neg h2, if_pos h3]
theorem outM_ok {lo hi by_ : Int} {ps : List Pr} (h : Asc ps) (h1 : lo ≤ hi) (h2 : by_ ≠ 0) (h3 : ¬ 18446744073709551615 - hi < by_) : outM lo hi by_ ps = (mv lo hi ((inR lo hi ps).map (shP by_)) ps, 0) := by unfold outM; rw [if_pos h, if_neg (by omega), if_neg h2, if_neg h3]
end Go.Proofs.Ytfghkmhabpagkaa
