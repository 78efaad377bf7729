/- The reference's Check, walked. -/
import Derived.Test.YthkppihfdlmhgaaGood
import Derived.Test.YthkppihfdlmhgaaCkE
namespace Go.Proofs.Ythkppihfdlmhgaa
open Go Go.RowKit
set_option linter.unusedVariables false

set_option maxHeartbeats 2000000 in
theorem rcheck_any (l : List Ev) (A : Option Addr) (n c : Nat) (w : World) (hr : Hid (Reads w w.heap.size 4 A n (evs l))) (hn : n ≤ 65536) :
    Calls Try.prog 37 #[.slice A n c] w (CkEnd l w) := by
  have hl := Lib.hid (evs_n hr.out)
  go_enter Try.func37, Try.ntmps37
  go_wp2_with fail
  go_loopg [4] n (fun g i wr => ∃ (k : Nat), k + g = n ∧ i = .int .i64 k ∧ Hid (FineTo l k) ∧ Hid (Below w.heap.size w wr))
  case atStart => exact ⟨0, by omega, rfl, fineTo_zero l, Below.refl _ _⟩
  case round =>
    obtain ⟨k, hk, rfl, hF, hbel⟩ := hrel
    cases gk with
    | zero =>
      obtain rfl : k = n := by omega
      have hck := Lib.hid (ckIs_end hF.out (by rw [hl.out]; exact Nat.le_refl _))
      go_wp2_with fail
      go_ret2
      exact ⟨0, 0, rfl, hck.out, hbel.out⟩
    | succ g =>
      have k0 : (0 : Int) ≤ (k : Int) := by omega
      have k1 : (k : Int) < (n : Int) := by omega
      have hsz := hbel.out.size
      have hlk : k < l.length := by rw [hl.out]; omega
      have hx := Lib.hid (List.getElem?_eq_getElem hlk)
      generalize l[k] = x at hx
      have hrr : Hid (Reads wr wr.heap.size 4 A n (evs l)) := Lib.hid ((hr.out.below hbel.out).more hsz)
      have hg := good_any l A n c k x wr hrr hn hx.out
      clear hlk
      cases hgd : goodE l k x with
      | true =>
        have hF1 : Hid (FineTo l (k + 1)) := Lib.hid (fineTo_step hF.out hx.out hgd)
        rw [hgd] at hg
        clear hgd
        go_wp2_with (refine hg.mono ?_; rintro e w2 ⟨rfl, hb2⟩)
        go_roundg g
        case measure => omega
        case rel => exact ⟨k + 1, by omega, by go_num, hF1, Lib.hid (hbel.out.trans (hb2.mono hsz))⟩
      | false =>
        have hck := Lib.hid (ckIs_bad hF.out hx.out hgd)
        rw [hgd] at hg
        clear hgd
        go_wp2_with (refine hg.mono ?_; rintro e w2 ⟨rfl, hb2⟩)
        go_ret2
        exact ⟨_, _, rfl, hck.out, hbel.out.trans (hb2.mono hsz)⟩
end Go.Proofs.Ythkppihfdlmhgaa
