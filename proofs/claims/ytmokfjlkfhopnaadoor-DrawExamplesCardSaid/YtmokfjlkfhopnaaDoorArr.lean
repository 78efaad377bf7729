/- Two arrays of six ints, compared. -/
import Derived.Test.YtmokfjlkfhopnaaDoorBase
import Derived.ChangeKeysEq
namespace Go.Proofs.YtmokfjlkfhopnaaDoor
open Go Go.RowKit
theorem infoInt : (Tryd.prog.info? 3).map (fun i => (i.zero, i.size, i.bytes)) = some (some (.int .i64 0), 1, 8) := by kernel_rfl
theorem cellsInt : Tryd.prog.cellsOf 3 = 1 := by kernel_rfl
theorem eq6 (a0 a1 a2 a3 a4 a5 b0 b1 b2 b3 b4 b5 : Int) (w : World) :
    (Op.equalIn 10000 25 (.agg #[.int .i64 a0, .int .i64 a1, .int .i64 a2, .int .i64 a3, .int .i64 a4, .int .i64 a5]) (.agg #[.int .i64 b0, .int .i64 b1, .int .i64 b2, .int .i64 b3, .int .i64 b4, .int .i64 b5])).run Tryd.prog w
      = .ok (a0 == b0 && (a1 == b1 && (a2 == b2 && (a3 == b3 && (a4 == b4 && a5 == b5))))) w := by
  obtain ⟨i, hi, hz0, hz1, hz2⟩ := info_parts infoInt
  rw [run_equalIn_array w 9999 _ _ Tryd.underlying25 hi, cellsInt]
  simp only [List.range_succ, List.range_zero, List.nil_append, List.cons_append]
  simp [Op.eqItems, go_sem, Tryd.underlying3]
  by_cases h0 : a0 = b0 <;> by_cases h1 : a1 = b1 <;> by_cases h2 : a2 = b2 <;> by_cases h3 : a3 = b3 <;> by_cases h4 : a4 = b4 <;> by_cases h5 : a5 = b5 <;> simp [h0, h1, h2, h3, h4, h5]
end Go.Proofs.YtmokfjlkfhopnaaDoor
