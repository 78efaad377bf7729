/- The law DrawHeights, walked. -/
import Derived.Test.YtmokfjlkfhopnaaDoorBase
import Derived.OpenShut
namespace Go.Proofs.YtmokfjlkfhopnaaDoor
open Go Go.RowKit Go.ChangeShapes
set_option linter.unusedVariables false
theorem u64_of_wf {a : Int} (h : (Lit.int .u64 a).wf = true) : ∃ n : Nat, a = (n : Int) ∧ Hid (n < 18446744073709551616) := by
  have hb := bounds_u64 h
  exact ⟨a.toNat, by omega, (by omega : a.toNat < 18446744073709551616)⟩
theorem tab_lt {w : World} (hT : Hid (Tab w)) : 0 < w.heap.size := World.block_lt_of_cell? w _ (hT.out 0 (by decide))
theorem tab_below {B : Nat} {w w' : World} (hT : Hid (Tab w)) (hb : Below B w w') (hB : 0 < B) : Hid (Tab w') := fun j hj => (hb.cell (p := ⟨0, j, none⟩) hB).trans (hT.out j hj)
theorem wrap_add (y k : Nat) : IntKind.u64.wrap ((y : Int) + (k : Int)) = (((y + k) % 18446744073709551616 : Nat) : Int) := by
  rw [IntKind.wrap_u64]
  omega
theorem wrap_add_int (y k : Nat) : ((y : Int) + (k : Int)) % 18446744073709551616 = (((y + k) % 18446744073709551616 : Nat) : Int) := by omega
theorem heights_law (a0 a1 : Int) (w : World) (hT : Hid (Tab w)) (w0 : (Lit.int .u64 a0).wf = true) (w1 : (Lit.int .i64 a1).wf = true) :
    Calls Tryd.prog 4 #[.int .u64 a0, .int .i64 a1] w fun e w' => e = .returned (.bool true) ∧ Below w.heap.size w w' := by
  obtain ⟨x, rfl, hx⟩ := u64_of_wf w0
  clear w0 w1
  go_enter Tryd.func4, Tryd.ntmps4
  go_wp2_with fail
  refine (height_any x hx _ hT).mono ?_
  rintro e w' ⟨rfl, rfl⟩
  go_wp2_with fail
  refine (refheight_any x hx _).mono ?_
  rintro e w' ⟨rfl, rfl⟩
  go_wp2_with fail
  refine (mix_any x a1 _).mono ?_
  rintro e w' ⟨rfl, rfl⟩
  go_wp2_with fail
  refine (refmix_any x a1 _).mono ?_
  rintro e w' ⟨rfl, rfl⟩
  go_wp2_with fail
  go_ret
  exact ⟨rfl, Below.refl _ _⟩
end Go.Proofs.YtmokfjlkfhopnaaDoor
