/- event.rules walked: the map of the four rules. -/
import Derived.Test.YthkppihfdlmhgaaMap
import Derived.Test.YthkppihfdlmhgaaThr
namespace Go.Proofs.Ythkppihfdlmhgaa
open Go Go.RowKit
set_option linter.unusedVariables false

/-- The map's entries. -/
def rulesKv : List (Int × Value × Nat) := [(1, .func (.func 46) #[] #[], 0), (2, .func (.func 47) #[] #[], 1), (3, .func (.func 48) #[] #[], 2), (4, .func (.func 49) #[] #[], 3)]
theorem uMap : Try.prog.underlying 80 = some (.map 5 83) := by kernel_rfl
theorem uU8 : Try.prog.underlying 5 = some (.int .u8) := by kernel_rfl
theorem zFollow (w : World) : (zeroValue 83).run Try.prog w = .ok .nilFunc w := by kernel_rfl

set_option maxHeartbeats 1000000 in
theorem rules_any (w : World) : Calls Try.prog 42 #[] w fun e w' => e = .returned (.map (some w.heap.size)) ∧ IsMapOf w' w.heap.size .u8 rulesKv 4 ∧ Below w.heap.size w w' := by
  have hmm := @run_makeMap Try.prog
  have m0 : IsMapOf (w.alloc (.map #[] 0)) w.heap.size .u8 [] 0 := by unfold IsMapOf; exact heap_alloc_new w _
  obtain ⟨w1, r1, m1, g1⟩ := run_put_new uMap uU8 m0 1 (.func (.func 46) #[] #[]) rfl
  obtain ⟨w2, r2, m2, g2⟩ := run_put_new uMap uU8 m1 2 (.func (.func 47) #[] #[]) rfl
  obtain ⟨w3, r3, m3, g3⟩ := run_put_new uMap uU8 m2 3 (.func (.func 48) #[] #[]) rfl
  obtain ⟨w4, r4, m4, g4⟩ := run_put_new uMap uU8 m3 4 (.func (.func 49) #[] #[]) rfl
  have hb : Below w.heap.size w w4 :=
    (((((Below.refl _ w).alloc (Nat.le_refl _) _).grown g1 (by simp) (fun k e => by cases e; exact Nat.le_refl _)).grown g2 (by have := g1.size; simp at this; omega) (fun k e => by cases e; exact Nat.le_refl _)).grown g3 (by have := g1.size; have := g2.size; simp at *; omega) (fun k e => by cases e; exact Nat.le_refl _)).grown g4 (by have := g1.size; have := g2.size; have := g3.size; simp at *; omega) (fun k e => by cases e; exact Nat.le_refl _)
  clear m0 m1 m2 m3 g1 g2 g3 g4
  go_enter Try.func42, Try.ntmps42
  go_wp2
  go_ret
  exact ⟨rfl, m4, hb⟩

/-- The rule of a kind. -/
def ruleV (k : Int) : Value := if k = 1 then .func (.func 46) #[] #[] else if k = 2 then .func (.func 47) #[] #[] else if k = 3 then .func (.func 48) #[] #[] else if k = 4 then .func (.func 49) #[] #[] else .nilFunc
theorem rules_look {w : World} {g : Nat} (h : IsMapOf w g .u8 rulesKv 4) (k : Int) :
    (Instr.lookup 80 (.map (some g)) (.int .u8 k) true).run Try.prog w = .ok (.tuple #[ruleV k, .bool (decide (1 ≤ k ∧ k ≤ 4))]) w := by
  have hr := run_look uMap uU8 h k .nilFunc (zFollow w) true
  rw [hr]
  simp only [if_true, rulesKv, findL, ruleV]
  by_cases h1 : k = 1
  · subst h1; rfl
  · by_cases h2 : k = 2
    · subst h2; rfl
    · by_cases h3 : k = 3
      · subst h3; rfl
      · by_cases h4 : k = 4
        · subst h4; rfl
        · simp only [if_neg h1, if_neg h2, if_neg h3, if_neg h4]
          rw [decide_eq_false (by omega)]
          rfl
end Go.Proofs.Ythkppihfdlmhgaa
