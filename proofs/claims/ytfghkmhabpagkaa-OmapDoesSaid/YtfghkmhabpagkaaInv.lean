/- Invert, walked: the program's and the reference's; two lists of changes compared. -/
import Derived.Test.YtfghkmhabpagkaaCheck
import Derived.Test.YtfghkmhabpagkaaSorted
import Derived.Deep.RegionHeld3
namespace Go.Proofs.Ytfghkmhabpagkaa
open Go Go.RowKit
set_option linter.unusedVariables false

theorem infoPair : (Try.prog.info? 38).map (fun i => (i.zero, i.size, i.bytes)) = some (some (.agg #[.int .u64 0, .int .u64 0]), 2, 16) := by kernel_rfl
theorem infoU64 : (Try.prog.info? 23).map (fun i => (i.zero, i.size, i.bytes)) = some (some (.int .u64 0), 1, 8) := by kernel_rfl

/-- The cells of a literal slice, behind its head. -/
theorem cells_new (w : World) (t : TypeId) (xs : List Value) (X : Nat) (hX : X = w.heap.size) : ∀ j u, xs[j]? = some u → (w.alloc (.cells xs.toArray t)).cell? ((⟨X, 0, none⟩ : Addr).add j) = some u := by
  subst hX
  intro j u hu
  have hb : Blk (w.alloc (.cells xs.toArray t)) w.heap.size t xs.toArray := Blk.new w t _
  rw [Addr.add_lit, Nat.zero_add, hb.cell]
  simpa using hu

def invC (c : Chg) : Chg := ⟨c.key, c.is, c.new, c.was, c.old⟩
def inv (l : List Chg) : List Chg := l.map invC
theorem inv_take {l : List Chg} {k : Nat} {c : Chg} (h : l[k]? = some c) : inv (l.take (k + 1)) = inv (l.take k) ++ [invC c] := by
  unfold inv
  rw [List.take_add_one, h, List.map_append]
  rfl
theorem chs_one1 (c : Chg) : chs [c] = chC c := by simp [chs]

end Go.Proofs.Ytfghkmhabpagkaa
