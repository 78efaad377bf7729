/- A section set in place; a map of the threads' last ones. -/
import Derived.Test.YthkppihfdlmhgaaPairsQ
import Derived.Test.YthkppihfdlmhgaaSecW
namespace Go.Proofs.Ythkppihfdlmhgaa
open Go Go.RowKit
set_option linter.unusedVariables false

theorem secs_set : ∀ (o : List Sec) (j : Nat) (s : Sec) (x : Int), o[j]? = some s → secs (o.set j { s with exit := x }) = (secs o).set (j * 4 + 3) (.int .i64 x)
  | [], j, s, x, h => by cases h
  | y :: o, 0, s, x, h => by
    obtain rfl := Option.some.inj h
    rfl
  | y :: o, j + 1, s, x, h => by
    have ih := secs_set o j s x h
    rw [List.set_cons_succ]
    unfold secs at ih ⊢
    rw [List.flatMap_cons, List.flatMap_cons, ih, List.set_append_right _ _ (by rw [seC_len]; omega), seC_len, show (j + 1) * 4 + 3 - 4 = j * 4 + 3 by omega]
theorem secs_get {o : List Sec} {j : Nat} {s : Sec} (h : o[j]? = some s) : (secs o)[j * 4 + 3]? = some (.int .i64 s.exit) := flat_get seC 4 seC_len o j s 3 h (by omega)
theorem uMapI : Try.prog.underlying 87 = some (.map 3 3) := by kernel_rfl
theorem uInt : Try.prog.underlying 3 = some (.int .i64) := by kernel_rfl
theorem zInt (w : World) : (zeroValue 3).run Try.prog w = .ok (.int .i64 0) w := by kernel_rfl
theorem map_look {w : World} {g : Nat} {kv : List (Int × Value × Nat)} {clk : Nat} {o : List Sec} {t : Int} {j : Nat} (h : IsMapOf w g .i64 kv clk) (hm : MapIs kv o) (hj : lastS t o 0 = some j) :
    (Instr.lookup 87 (.map (some g)) (.int .i64 t) false).run Try.prog w = .ok (.int .i64 (j : Nat)) w := by
  rw [run_look uMapI uInt h t (.int .i64 0) (zInt w) false]
  have := hm t
  rw [hj] at this
  simp only [this]
  rfl
theorem IsMapOf.grown {w w' : World} {g : Nat} {q : IntKind} {kv : List (Int × Value × Nat)} {clk : Nat} {row : Option Nat} (h : IsMapOf w g q kv clk) (hb : w.grownBy w' row) (hg : some g ≠ row) : IsMapOf w' g q kv clk :=
  (hb.block g (Array.getElem?_eq_some_iff.1 h).1 hg).trans h
end Go.Proofs.Ythkppihfdlmhgaa
