/- Check, walked: the program's and the reference's (printed by gen_check.py). -/
import Derived.Test.YtfghkmhabpagkaaData
import Derived.Test.YtfghkmhabpagkaaChecked
import Derived.WalkKit
import Derived.WalkSpells
import Derived.WalkLawsBesides
import Derived.Lib.Hide
import Derived.Deep.QuietTactic
import Derived.BigQuiet
namespace Go.Proofs.Ytfghkmhabpagkaa
open Go Go.RowKit
set_option linter.unusedVariables false

/-- A change says something, and nothing more than it may. -/
def GoodC (c : Chg) : Prop := (c.was = true ∨ c.is = true) ∧ (c.was = true ∨ c.old = 0) ∧ (c.is = true ∨ c.new = 0)
/-- The change k of a list is good, and its key is greater than the one before. -/
def OkAt (l : List Chg) (k : Nat) : Prop := ∀ c, l[k]? = some c → GoodC c ∧ ∀ p, 0 < k → l[k - 1]? = some p → p.key < c.key
/-- A list of changes is a plan. -/
def Plan (l : List Chg) : Prop := ∀ k, OkAt l k
def CheckEnd (l : List Chg) (w : World) (e : Ending) (w' : World) : Prop :=
  (Plan l → e = .returned (.int .i64 0)) ∧ (¬ Plan l → e = .returned (.int .i64 2)) ∧ Below w.heap.size w w'
theorem okAt_first {l : List Chg} {c : Chg} (hx : l[0]? = some c) (hg : GoodC c) : OkAt l 0 := fun d hd => by
  obtain rfl := Option.some.inj (hx.symm.trans hd)
  exact ⟨hg, fun p h0 => absurd h0 (by omega)⟩
theorem okAt_next {l : List Chg} {k : Nat} {c p : Chg} (hx : l[k + 1]? = some c) (hp : l[k]? = some p) (hg : GoodC c) (hk : p.key < c.key) : OkAt l (k + 1) := fun d hd => by
  obtain rfl := Option.some.inj (hx.symm.trans hd)
  exact ⟨hg, fun q _ hq => by
    obtain rfl := Option.some.inj (hp.symm.trans hq)
    exact hk⟩
theorem not_plan_bad {l : List Chg} {k : Nat} {c : Chg} (hx : l[k]? = some c) (hg : ¬ GoodC c) : ¬ Plan l := fun h => hg (h k c hx).1
theorem not_plan_key {l : List Chg} {k : Nat} {c p : Chg} (hx : l[k + 1]? = some c) (hp : l[k]? = some p) (hk : ¬ p.key < c.key) : ¬ Plan l := fun h => hk ((h (k + 1) c hx).2 p (by omega) hp)
theorem plan_of {l : List Chg} {n : Nat} (hl : l.length = n) (h : ∀ i, i < n → OkAt l i) : Plan l := fun k c hc => h k (by have := (List.getElem?_eq_some_iff.1 hc).1; omega) c hc

theorem all_succ {P : Nat → Prop} {k : Nat} (h : ∀ i, i < k → P i) (hk : P k) : ∀ i, i < k + 1 → P i := fun i hi => by
  rcases Nat.lt_succ_iff_lt_or_eq.1 hi with h1 | rfl
  · exact h i h1
  · exact hk
/-- The six shapes of a change. -/
theorem shape (was is : Bool) (old new : Int) : (was = true ∧ is = true) ∨ (was = true ∧ is = false ∧ new = 0) ∨ (was = false ∧ is = true ∧ old = 0) ∨ (was = false ∧ is = false) ∨ (was = false ∧ is = true ∧ old ≠ 0) ∨ (was = true ∧ is = false ∧ new ≠ 0) := by
  by_cases h1 : old = 0 <;> by_cases h2 : new = 0 <;> cases was <;> cases is <;> simp [h1, h2]

end Go.Proofs.Ytfghkmhabpagkaa
