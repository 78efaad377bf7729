/- Draws outermost, for any number of draws: two rules for the walk beside the kit's own for one draw. -/
import Derived.Test.YtfghkmhabpagkaaWords
import Derived.Laws.NewBlocks
namespace Go.Proofs.Ytfghkmhabpagkaa
open Go Go.RowKit
@[go_sem] theorem alloc_drewN (w : World) (n : Nat) (o : Obj) : (w.drewN n).alloc o = (w.alloc o).drewN n := rfl
@[go_sem] theorem setCell_drewN (w : World) (n : Nat) (a : Addr) (v : Value) : (w.drewN n).setCell a v = (w.setCell a v).drewN n := rfl
theorem own_drewN {w : World} {base e size n : Nat} {v : Value} {xs : List Value} (h : w.ownsRow base e size v n xs) (k : Nat) : (w.drewN k).ownsRow base e size v n xs := h
end Go.Proofs.Ytfghkmhabpagkaa
