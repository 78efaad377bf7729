/- Contracts of Tally in the callers' forms; the fixed draws. -/
import Derived.Test.YtmokfjlkfhopnaaDoorLists
namespace Go.Proofs.YtmokfjlkfhopnaaDoor
open Go Go.RowKit Go.ChangeShapes
set_option linter.unusedVariables false

theorem eq6_same (a0 a1 a2 a3 a4 a5 : Int) (w : World) :
    (Op.equalIn 10000 25 (.agg #[.int .i64 a0, .int .i64 a1, .int .i64 a2, .int .i64 a3, .int .i64 a4, .int .i64 a5]) (.agg #[.int .i64 a0, .int .i64 a1, .int .i64 a2, .int .i64 a3, .int .i64 a4, .int .i64 a5])).run Tryd.prog w = .ok true w := by
  rw [eq6]
  simp

theorem tally_ok (l : List Int) (x0 x1 x2 x3 x4 x5 : Int) (hV : talV l = #[.int .i64 x0, .int .i64 x1, .int .i64 x2, .int .i64 x3, .int .i64 x4, .int .i64 x5]) (ho : okH l = true)
    (A : Option Addr) (n c : Nat) (w : World) (hr : Hid (Reads w w.heap.size 1 A n (ints l))) (hn : n ≤ 9223372036854775807) :
    Calls Tryd.prog 15 #[.slice A n c] w fun e w' => e = .returned (.tuple #[.agg #[.int .i64 x0, .int .i64 x1, .int .i64 x2, .int .i64 x3, .int .i64 x4, .int .i64 x5], .int .i64 0]) ∧ Below w.heap.size w w' :=
  (tally_any l A n c w hr hn).mono fun e w' ⟨h1, _, h3⟩ => ⟨by rw [← hV]; exact h1 ho, h3⟩
theorem tally_no (l : List Int) (ho : okH l = false) (A : Option Addr) (n c : Nat) (w : World) (hr : Hid (Reads w w.heap.size 1 A n (ints l))) (hn : n ≤ 9223372036854775807) :
    Calls Tryd.prog 15 #[.slice A n c] w fun e w' => e = .returned (.tuple #[.agg #[.int .i64 0, .int .i64 0, .int .i64 0, .int .i64 0, .int .i64 0, .int .i64 0], .int .i64 3]) ∧ Below w.heap.size w w' :=
  (tally_any l A n c w hr hn).mono fun e w' ⟨_, h2, h3⟩ => ⟨h2 ho, h3⟩
theorem reftally_ok (l : List Int) (x0 x1 x2 x3 x4 x5 : Int) (hV : talV l = #[.int .i64 x0, .int .i64 x1, .int .i64 x2, .int .i64 x3, .int .i64 x4, .int .i64 x5]) (ho : okH l = true)
    (A : Option Addr) (n c : Nat) (w : World) (hr : Hid (Reads w w.heap.size 1 A n (ints l))) (hn : n ≤ 9223372036854775807) :
    Calls Tryd.prog 16 #[.slice A n c] w fun e w' => e = .returned (.tuple #[.agg #[.int .i64 x0, .int .i64 x1, .int .i64 x2, .int .i64 x3, .int .i64 x4, .int .i64 x5], .int .i64 0]) ∧ Below w.heap.size w w' :=
  (reftally_any l A n c w hr hn).mono fun e w' ⟨h1, _, h3⟩ => ⟨by rw [← hV]; exact h1 ho, h3⟩
theorem reftally_no (l : List Int) (ho : okH l = false) (A : Option Addr) (n c : Nat) (w : World) (hr : Hid (Reads w w.heap.size 1 A n (ints l))) (hn : n ≤ 9223372036854775807) :
    Calls Tryd.prog 16 #[.slice A n c] w fun e w' => e = .returned (.tuple #[.agg #[.int .i64 0, .int .i64 0, .int .i64 0, .int .i64 0, .int .i64 0, .int .i64 0], .int .i64 3]) ∧ Below w.heap.size w w' :=
  (reftally_any l A n c w hr hn).mono fun e w' ⟨_, h2, h3⟩ => ⟨h2 ho, h3⟩

theorem mix_at (s k : Nat) (a b m : Int) (ha : (s : Int) = a) (hb : (k : Int) = b) (hk : k < 9223372036854775808) (hm : ((mix s k : Nat) : Int) = m) (w : World) :
    Calls Tryd.prog 12 #[.int .u64 a, .int .i64 b] w fun e w' => e = .returned (.int .u64 m) ∧ w = w' := by
  subst ha
  subst hb
  refine (mix_any s k w).mono fun e w' ⟨he, hw⟩ => ⟨?_, hw⟩
  rw [he, emod_nat k hk, hm]
theorem height_at (x : Nat) (a h : Int) (ha : (x : Int) = a) (hx : x < 18446744073709551616) (hh : ((hgt x : Nat) : Int) = h) (w : World) (hT : Hid (Tab w)) :
    Calls Tryd.prog 10 #[.int .u64 a] w fun e w' => e = .returned (.int .i64 h) ∧ w = w' := by
  subst ha
  refine (height_any x hx w hT).mono fun e w' ⟨he, hw⟩ => ⟨?_, hw⟩
  rw [he, hh]
theorem hgt3 : hgt 3 = 3 := by decide
theorem known_any (w : World) (hT : Hid (Tab w)) : Calls Tryd.prog 14 #[] w fun e w' => e = .returned (.bool true) ∧ Below w.heap.size w w' := by
  have hr := Lib.hid (reads_lit w 3 (ints [2]) (size := 1) 1 rfl)
  go_enter Tryd.func14, Tryd.ntmps14
  go_wp2_with fail
  refine (tally_ok [2] 0 1 0 0 0 0 rfl rfl _ _ _ _ hr (by omega)).mono ?_
  rintro e w1 ⟨rfl, hb⟩
  have hb1 := Lib.hid (((Below.refl w.heap.size w).alloc (Nat.le_refl _) _).trans (hb.mono (by simp)))
  have hT1 : Hid (Tab w1) := tab_below hT hb1.out (tab_lt hT)
  clear hb hr
  go_wp2_with fail
  refine (height_at 3 _ 3 rfl (by decide) (by decide) _ ?_).mono ?_
  · exact tab_below hT1 (((Below.refl _ _).alloc (Nat.le_refl _) _)) (tab_lt hT1)
  rintro e w' ⟨rfl, rfl⟩
  go_wp2_with fail
  refine (mix_at 0 0 _ _ 16294208416658607535 rfl rfl (by decide) (by rw [mix_zero.1]; rfl) _).mono ?_
  rintro e w' ⟨rfl, rfl⟩
  go_wp2_with fail
  go_ret
  exact ⟨rfl, hb1.out.alloc hb1.out.size _⟩
end Go.Proofs.YtmokfjlkfhopnaaDoor
