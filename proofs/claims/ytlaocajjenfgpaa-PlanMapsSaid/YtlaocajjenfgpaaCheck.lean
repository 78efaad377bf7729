/- Check, walked: the program's and the reference's (printed by gen_check.py). -/
import Derived.Test.YtlaocajjenfgpaaData
import Derived.Test.YtlaocajjenfgpaaChecked
import Derived.WalkKit
import Derived.WalkSpells
import Derived.WalkLawsBesides
import Derived.Lib.Hide
import Derived.Deep.QuietTactic
import Derived.BigQuiet
namespace Go.Proofs.Ytlaocajjenfgpaa
open Go Go.RowKit
set_option linter.unusedVariables false

/-- A change says something, and nothing more than it may. -/
def GoodC (c : Chg) : Prop := (c.was = true ∨ c.is = true) ∧ (c.was = true ∨ c.old = 0) ∧ (c.is = true ∨ c.new = 0)
/-- The change k of a list is good, and its key is greater than the one before. -/
def OkAt (l : List Chg) (k : Nat) : Prop := ∀ c, l[k]? = some c → GoodC c ∧ ∀ p, 0 < k → l[k - 1]? = some p → p.key < c.key
/-- A list of changes is a plan. -/
def Plan (l : List Chg) : Prop := ∀ k, OkAt l k
def CheckEnd (l : List Chg) (w : World) (e : Ending) (w' : World) : Prop :=
  (Plan l → e = .returned (.int .i64 0)) ∧ (¬ Plan l → e = .returned (.int .i64 2)) ∧ Below w.heap.size w w'
theorem okAt_first {l : List Chg} {c : Chg} (hx : l[0]? = some c) (hg : GoodC c) : OkAt l 0 := fun d hd => by
  obtain rfl := Option.some.inj (hx.symm.trans hd)
  exact ⟨hg, fun p h0 => absurd h0 (by omega)⟩
theorem okAt_next {l : List Chg} {k : Nat} {c p : Chg} (hx : l[k + 1]? = some c) (hp : l[k]? = some p) (hg : GoodC c) (hk : p.key < c.key) : OkAt l (k + 1) := fun d hd => by
  obtain rfl := Option.some.inj (hx.symm.trans hd)
  exact ⟨hg, fun q _ hq => by
    obtain rfl := Option.some.inj (hp.symm.trans hq)
    exact hk⟩
theorem not_plan_bad {l : List Chg} {k : Nat} {c : Chg} (hx : l[k]? = some c) (hg : ¬ GoodC c) : ¬ Plan l := fun h => hg (h k c hx).1
theorem not_plan_key {l : List Chg} {k : Nat} {c p : Chg} (hx : l[k + 1]? = some c) (hp : l[k]? = some p) (hk : ¬ p.key < c.key) : ¬ Plan l := fun h => hk ((h (k + 1) c hx).2 p (by omega) hp)
theorem plan_of {l : List Chg} {n : Nat} (hl : l.length = n) (h : ∀ i, i < n → OkAt l i) : Plan l := fun k c hc => h k (by have := (List.getElem?_eq_some_iff.1 hc).1; omega) c hc

theorem all_succ {P : Nat → Prop} {k : Nat} (h : ∀ i, i < k → P i) (hk : P k) : ∀ i, i < k + 1 → P i := fun i hi => by
  rcases Nat.lt_succ_iff_lt_or_eq.1 hi with h1 | rfl
  · exact h i h1
  · exact hk
/-- The six shapes of a change. -/
theorem shape (was is : Bool) (old new : Int) : (was = true ∧ is = true) ∨ (was = true ∧ is = false ∧ new = 0) ∨ (was = false ∧ is = true ∧ old = 0) ∨ (was = false ∧ is = false) ∨ (was = false ∧ is = true ∧ old ≠ 0) ∨ (was = true ∧ is = false ∧ new ≠ 0) := by
  by_cases h1 : old = 0 <;> by_cases h2 : new = 0 <;> cases was <;> cases is <;> simp [h1, h2]

set_option maxHeartbeats 4000000 in
theorem check_any (l : List Chg) (A : Option Addr) (n c : Nat) (w : World) (hr : Hid (Reads w w.heap.size 5 A n (chs l))) (hn : n ≤ 9223372036854775807) :
    Calls Try.prog 23 #[.slice A n c] w (CheckEnd l w) := by
  go_enter Try.func23, Try.ntmps23
  go_wp2_with fail
  go_loopw [7] (fun i wr => ∃ k : Nat, k ≤ n ∧ i = .int .i64 k ∧ Hid (Below w.heap.size w wr) ∧ Hid (∀ i, i < k → OkAt l i)) (fun i _ => n - (intOf i).toNat)
  case atStart => exact ⟨0, by omega, rfl, Below.refl _ _, fun i hi => absurd hi (by omega)⟩
  case round =>
    obtain ⟨k, hk, rfl, hbel, hall⟩ := hrel
    have hsz := Lib.hid hbel.out.size
    by_cases hlt : k < n
    · obtain ⟨b, o, rfl, hbB⟩ := reads_head hr.out (by omega) (by decide)
      have hbw : b < wr.heap.size := by have := hsz.out; omega
      obtain ⟨c, hx, c0, c1, c2, c3, c4⟩ := chs_at (hr.out.below hbel.out) hlt
      obtain ⟨key, was, old, is, new⟩ := c
      dsimp only at c0 c1 c2 c3 c4
      have i0 : (0 : Int) ≤ (k : Int) := by omega
      have i1 : (k : Int) < (n : Int) := by omega
      rcases Nat.eq_zero_or_pos k with hk0 | hk0
      · subst hk0
        simp only [Nat.zero_mul, Nat.add_zero] at c0 c1 c2 c3 c4
        rcases (shape was is old new) with ⟨rfl, rfl⟩ | ⟨rfl, rfl, h1⟩ | ⟨rfl, rfl, h1⟩ | ⟨rfl, rfl⟩ | ⟨rfl, rfl, h1⟩ | ⟨rfl, rfl, h1⟩
        · -- was true, is true: trivial
          have hok : Hid (OkAt l (0)) := okAt_first hx ⟨by simp, by simp; try omega, by simp; try omega⟩
          clear hx
          go_wp2_with fail
          go_quiet (fail)
          go_wp2_with fail
          go_roundw
          case rel => exact ⟨0 + 1, by omega, by go_num, below_drewN (hbel.out.alloc hbel.out.size _) _, all_succ hall.out hok.out⟩
          case measure => simp [intOf]; omega
        · -- was true, is false: n0
          have h0 : (new != 0) = false := by simp; omega
          have hok : Hid (OkAt l (0)) := okAt_first hx ⟨by simp, by simp; try omega, by simp; try omega⟩
          clear hx
          go_wp2_with fail
          go_quiet (fail)
          go_wp2_with fail
          go_roundw
          case rel => exact ⟨0 + 1, by omega, by go_num, below_drewN (hbel.out.alloc hbel.out.size _) _, all_succ hall.out hok.out⟩
          case measure => simp [intOf]; omega
        · -- was false, is true: o0
          have h0 : (old != 0) = false := by simp; omega
          have hok : Hid (OkAt l (0)) := okAt_first hx ⟨by simp, by simp; try omega, by simp; try omega⟩
          clear hx
          go_wp2_with fail
          go_quiet (fail)
          go_wp2_with fail
          go_roundw
          case rel => exact ⟨0 + 1, by omega, by go_num, below_drewN (hbel.out.alloc hbel.out.size _) _, all_succ hall.out hok.out⟩
          case measure => simp [intOf]; omega
        · -- was false, is false: bb
          have hno : Hid (¬ Plan l) := not_plan_bad hx (by unfold GoodC; simp; try omega)
          clear hx
          go_wp2_with fail
          go_quiet (fail)
          go_wp2_with fail
          go_ret
          exact ⟨fun h => absurd h hno.out, fun _ => rfl, below_drewN (hbel.out.alloc hbel.out.size _) _⟩
        · -- was false, is true: o1
          have h0 : (old != 0) = true := by simp; omega
          have hno : Hid (¬ Plan l) := not_plan_bad hx (by unfold GoodC; simp; try omega)
          clear hx
          go_wp2_with fail
          go_quiet (fail)
          go_wp2_with fail
          go_ret
          exact ⟨fun h => absurd h hno.out, fun _ => rfl, below_drewN (hbel.out.alloc hbel.out.size _) _⟩
        · -- was true, is false: n1
          have h0 : (new != 0) = true := by simp; omega
          have hno : Hid (¬ Plan l) := not_plan_bad hx (by unfold GoodC; simp; try omega)
          clear hx
          go_wp2_with fail
          go_quiet (fail)
          go_wp2_with fail
          go_ret
          exact ⟨fun h => absurd h hno.out, fun _ => rfl, below_drewN (hbel.out.alloc hbel.out.size _) _⟩
      · obtain ⟨m, rfl⟩ : ∃ m, k = m + 1 := ⟨k - 1, by omega⟩
        obtain ⟨p, hp, p0, _⟩ := chs_at (k := m) (hr.out.below hbel.out) (by omega)
        obtain ⟨pkey, _, _, _, _⟩ := p
        dsimp only at p0
        have im : ((m + 1 : Nat) : Int) - 1 = (m : Int) := by omega
        have iw : IntKind.i64.wrap (((m + 1 : Nat) : Int) - 1) = (m : Int) := by rw [IntWalk.i64_in _ (by omega)]; omega
        by_cases hord : pkey < key
        · have hd : decide (key ≤ pkey) = false := by simp; omega
          rcases (shape was is old new) with ⟨rfl, rfl⟩ | ⟨rfl, rfl, h1⟩ | ⟨rfl, rfl, h1⟩ | ⟨rfl, rfl⟩ | ⟨rfl, rfl, h1⟩ | ⟨rfl, rfl, h1⟩
          · -- was true, is true: trivial
            have hok : Hid (OkAt l (m + 1)) := okAt_next hx hp ⟨by simp, by simp; try omega, by simp; try omega⟩ hord
            clear hx hp
            go_wp2_with fail
            go_quiet (fail)
            go_wp2_with fail
            go_roundw
            case rel => exact ⟨m + 1 + 1, by omega, by go_num, below_drewN (hbel.out.alloc hbel.out.size _) _, all_succ hall.out hok.out⟩
            case measure => simp [intOf]; omega
          · -- was true, is false: n0
            have h0 : (new != 0) = false := by simp; omega
            have hok : Hid (OkAt l (m + 1)) := okAt_next hx hp ⟨by simp, by simp; try omega, by simp; try omega⟩ hord
            clear hx hp
            go_wp2_with fail
            go_quiet (fail)
            go_wp2_with fail
            go_roundw
            case rel => exact ⟨m + 1 + 1, by omega, by go_num, below_drewN (hbel.out.alloc hbel.out.size _) _, all_succ hall.out hok.out⟩
            case measure => simp [intOf]; omega
          · -- was false, is true: o0
            have h0 : (old != 0) = false := by simp; omega
            have hok : Hid (OkAt l (m + 1)) := okAt_next hx hp ⟨by simp, by simp; try omega, by simp; try omega⟩ hord
            clear hx hp
            go_wp2_with fail
            go_quiet (fail)
            go_wp2_with fail
            go_roundw
            case rel => exact ⟨m + 1 + 1, by omega, by go_num, below_drewN (hbel.out.alloc hbel.out.size _) _, all_succ hall.out hok.out⟩
            case measure => simp [intOf]; omega
          · -- was false, is false: bb
            have hno : Hid (¬ Plan l) := not_plan_bad hx (by unfold GoodC; simp; try omega)
            clear hx hp
            go_wp2_with fail
            go_quiet (fail)
            go_wp2_with fail
            go_ret
            exact ⟨fun h => absurd h hno.out, fun _ => rfl, below_drewN (hbel.out.alloc hbel.out.size _) _⟩
          · -- was false, is true: o1
            have h0 : (old != 0) = true := by simp; omega
            have hno : Hid (¬ Plan l) := not_plan_bad hx (by unfold GoodC; simp; try omega)
            clear hx hp
            go_wp2_with fail
            go_quiet (fail)
            go_wp2_with fail
            go_ret
            exact ⟨fun h => absurd h hno.out, fun _ => rfl, below_drewN (hbel.out.alloc hbel.out.size _) _⟩
          · -- was true, is false: n1
            have h0 : (new != 0) = true := by simp; omega
            have hno : Hid (¬ Plan l) := not_plan_bad hx (by unfold GoodC; simp; try omega)
            clear hx hp
            go_wp2_with fail
            go_quiet (fail)
            go_wp2_with fail
            go_ret
            exact ⟨fun h => absurd h hno.out, fun _ => rfl, below_drewN (hbel.out.alloc hbel.out.size _) _⟩
        · have hd : decide (key ≤ pkey) = true := by simp; omega
          rcases (shape was is old new) with ⟨rfl, rfl⟩ | ⟨rfl, rfl, h1⟩ | ⟨rfl, rfl, h1⟩ | ⟨rfl, rfl⟩ | ⟨rfl, rfl, h1⟩ | ⟨rfl, rfl, h1⟩
          · -- was true, is true: trivial
            have hno : Hid (¬ Plan l) := not_plan_key hx hp (by simp; omega)
            clear hx hp
            go_wp2_with fail
            go_quiet (fail)
            go_wp2_with fail
            go_ret
            exact ⟨fun h => absurd h hno.out, fun _ => rfl, below_drewN (hbel.out.alloc hbel.out.size _) _⟩
          · -- was true, is false: n0
            have h0 : (new != 0) = false := by simp; omega
            have hno : Hid (¬ Plan l) := not_plan_key hx hp (by simp; omega)
            clear hx hp
            go_wp2_with fail
            go_quiet (fail)
            go_wp2_with fail
            go_ret
            exact ⟨fun h => absurd h hno.out, fun _ => rfl, below_drewN (hbel.out.alloc hbel.out.size _) _⟩
          · -- was false, is true: o0
            have h0 : (old != 0) = false := by simp; omega
            have hno : Hid (¬ Plan l) := not_plan_key hx hp (by simp; omega)
            clear hx hp
            go_wp2_with fail
            go_quiet (fail)
            go_wp2_with fail
            go_ret
            exact ⟨fun h => absurd h hno.out, fun _ => rfl, below_drewN (hbel.out.alloc hbel.out.size _) _⟩
          · -- was false, is false: bb
            have hno : Hid (¬ Plan l) := not_plan_bad hx (by unfold GoodC; simp; try omega)
            clear hx hp
            go_wp2_with fail
            go_quiet (fail)
            go_wp2_with fail
            go_ret
            exact ⟨fun h => absurd h hno.out, fun _ => rfl, below_drewN (hbel.out.alloc hbel.out.size _) _⟩
          · -- was false, is true: o1
            have h0 : (old != 0) = true := by simp; omega
            have hno : Hid (¬ Plan l) := not_plan_bad hx (by unfold GoodC; simp; try omega)
            clear hx hp
            go_wp2_with fail
            go_quiet (fail)
            go_wp2_with fail
            go_ret
            exact ⟨fun h => absurd h hno.out, fun _ => rfl, below_drewN (hbel.out.alloc hbel.out.size _) _⟩
          · -- was true, is false: n1
            have h0 : (new != 0) = true := by simp; omega
            have hno : Hid (¬ Plan l) := not_plan_bad hx (by unfold GoodC; simp; try omega)
            clear hx hp
            go_wp2_with fail
            go_quiet (fail)
            go_wp2_with fail
            go_ret
            exact ⟨fun h => absurd h hno.out, fun _ => rfl, below_drewN (hbel.out.alloc hbel.out.size _) _⟩
    · obtain rfl : k = n := by omega
      have hplan := Lib.hid (plan_of (chs_n hr.out) hall.out)
      go_wp2
      go_ret
      exact ⟨fun _ => rfl, fun h => absurd hplan.out h, hbel.out⟩

set_option maxHeartbeats 4000000 in
theorem refcheck_any (l : List Chg) (A : Option Addr) (n c : Nat) (w : World) (hr : Hid (Reads w w.heap.size 5 A n (chs l))) (hn : n ≤ 9223372036854775807) :
    Calls Try.prog 24 #[.slice A n c] w (CheckEnd l w) := by
  go_enter Try.func24, Try.ntmps24
  go_wp2_with fail
  go_loopw [3] (fun i wr => ∃ k : Nat, k ≤ n ∧ i = .int .i64 k ∧ Hid (Below w.heap.size w wr) ∧ Hid (∀ i, i < k → OkAt l i)) (fun i _ => n - (intOf i).toNat)
  case atStart => exact ⟨0, by omega, rfl, Below.refl _ _, fun i hi => absurd hi (by omega)⟩
  case round =>
    obtain ⟨k, hk, rfl, hbel, hall⟩ := hrel
    have hsz := Lib.hid hbel.out.size
    by_cases hlt : k < n
    · obtain ⟨b, o, rfl, hbB⟩ := reads_head hr.out (by omega) (by decide)
      have hbw : b < wr.heap.size := by have := hsz.out; omega
      obtain ⟨c, hx, c0, c1, c2, c3, c4⟩ := chs_at (hr.out.below hbel.out) hlt
      obtain ⟨key, was, old, is, new⟩ := c
      dsimp only at c0 c1 c2 c3 c4
      have i0 : (0 : Int) ≤ (k : Int) := by omega
      have i1 : (k : Int) < (n : Int) := by omega
      rcases Nat.eq_zero_or_pos k with hk0 | hk0
      · subst hk0
        simp only [Nat.zero_mul, Nat.add_zero] at c0 c1 c2 c3 c4
        rcases (shape was is old new) with ⟨rfl, rfl⟩ | ⟨rfl, rfl, h1⟩ | ⟨rfl, rfl, h1⟩ | ⟨rfl, rfl⟩ | ⟨rfl, rfl, h1⟩ | ⟨rfl, rfl, h1⟩
        · -- was true, is true: trivial
          have hok : Hid (OkAt l (0)) := okAt_first hx ⟨by simp, by simp; try omega, by simp; try omega⟩
          clear hx
          go_wp2_with fail
          go_quiet (fail)
          go_wp2_with fail
          go_roundw
          case rel => exact ⟨0 + 1, by omega, by go_num, below_drewN (hbel.out.alloc hbel.out.size _) _, all_succ hall.out hok.out⟩
          case measure => simp [intOf]; omega
        · -- was true, is false: n0
          have h0 : (new != 0) = false := by simp; omega
          have hok : Hid (OkAt l (0)) := okAt_first hx ⟨by simp, by simp; try omega, by simp; try omega⟩
          clear hx
          go_wp2_with fail
          go_quiet (fail)
          go_wp2_with fail
          go_roundw
          case rel => exact ⟨0 + 1, by omega, by go_num, below_drewN (hbel.out.alloc hbel.out.size _) _, all_succ hall.out hok.out⟩
          case measure => simp [intOf]; omega
        · -- was false, is true: o0
          have h0 : (old != 0) = false := by simp; omega
          have hok : Hid (OkAt l (0)) := okAt_first hx ⟨by simp, by simp; try omega, by simp; try omega⟩
          clear hx
          go_wp2_with fail
          go_quiet (fail)
          go_wp2_with fail
          go_roundw
          case rel => exact ⟨0 + 1, by omega, by go_num, below_drewN (hbel.out.alloc hbel.out.size _) _, all_succ hall.out hok.out⟩
          case measure => simp [intOf]; omega
        · -- was false, is false: bb
          have hno : Hid (¬ Plan l) := not_plan_bad hx (by unfold GoodC; simp; try omega)
          clear hx
          go_wp2_with fail
          go_quiet (fail)
          go_wp2_with fail
          go_ret
          exact ⟨fun h => absurd h hno.out, fun _ => rfl, below_drewN (hbel.out.alloc hbel.out.size _) _⟩
        · -- was false, is true: o1
          have h0 : (old != 0) = true := by simp; omega
          have hno : Hid (¬ Plan l) := not_plan_bad hx (by unfold GoodC; simp; try omega)
          clear hx
          go_wp2_with fail
          go_quiet (fail)
          go_wp2_with fail
          go_ret
          exact ⟨fun h => absurd h hno.out, fun _ => rfl, below_drewN (hbel.out.alloc hbel.out.size _) _⟩
        · -- was true, is false: n1
          have h0 : (new != 0) = true := by simp; omega
          have hno : Hid (¬ Plan l) := not_plan_bad hx (by unfold GoodC; simp; try omega)
          clear hx
          go_wp2_with fail
          go_quiet (fail)
          go_wp2_with fail
          go_ret
          exact ⟨fun h => absurd h hno.out, fun _ => rfl, below_drewN (hbel.out.alloc hbel.out.size _) _⟩
      · obtain ⟨m, rfl⟩ : ∃ m, k = m + 1 := ⟨k - 1, by omega⟩
        obtain ⟨p, hp, p0, _⟩ := chs_at (k := m) (hr.out.below hbel.out) (by omega)
        obtain ⟨pkey, _, _, _, _⟩ := p
        dsimp only at p0
        have im : ((m + 1 : Nat) : Int) - 1 = (m : Int) := by omega
        have iw : IntKind.i64.wrap (((m + 1 : Nat) : Int) - 1) = (m : Int) := by rw [IntWalk.i64_in _ (by omega)]; omega
        by_cases hord : pkey < key
        · have hd : decide (key ≤ pkey) = false := by simp; omega
          rcases (shape was is old new) with ⟨rfl, rfl⟩ | ⟨rfl, rfl, h1⟩ | ⟨rfl, rfl, h1⟩ | ⟨rfl, rfl⟩ | ⟨rfl, rfl, h1⟩ | ⟨rfl, rfl, h1⟩
          · -- was true, is true: trivial
            have hok : Hid (OkAt l (m + 1)) := okAt_next hx hp ⟨by simp, by simp; try omega, by simp; try omega⟩ hord
            clear hx hp
            go_wp2_with fail
            go_quiet (fail)
            go_wp2_with fail
            go_roundw
            case rel => exact ⟨m + 1 + 1, by omega, by go_num, below_drewN (hbel.out.alloc hbel.out.size _) _, all_succ hall.out hok.out⟩
            case measure => simp [intOf]; omega
          · -- was true, is false: n0
            have h0 : (new != 0) = false := by simp; omega
            have hok : Hid (OkAt l (m + 1)) := okAt_next hx hp ⟨by simp, by simp; try omega, by simp; try omega⟩ hord
            clear hx hp
            go_wp2_with fail
            go_quiet (fail)
            go_wp2_with fail
            go_roundw
            case rel => exact ⟨m + 1 + 1, by omega, by go_num, below_drewN (hbel.out.alloc hbel.out.size _) _, all_succ hall.out hok.out⟩
            case measure => simp [intOf]; omega
          · -- was false, is true: o0
            have h0 : (old != 0) = false := by simp; omega
            have hok : Hid (OkAt l (m + 1)) := okAt_next hx hp ⟨by simp, by simp; try omega, by simp; try omega⟩ hord
            clear hx hp
            go_wp2_with fail
            go_quiet (fail)
            go_wp2_with fail
            go_roundw
            case rel => exact ⟨m + 1 + 1, by omega, by go_num, below_drewN (hbel.out.alloc hbel.out.size _) _, all_succ hall.out hok.out⟩
            case measure => simp [intOf]; omega
          · -- was false, is false: bb
            have hno : Hid (¬ Plan l) := not_plan_bad hx (by unfold GoodC; simp; try omega)
            clear hx hp
            go_wp2_with fail
            go_quiet (fail)
            go_wp2_with fail
            go_ret
            exact ⟨fun h => absurd h hno.out, fun _ => rfl, below_drewN (hbel.out.alloc hbel.out.size _) _⟩
          · -- was false, is true: o1
            have h0 : (old != 0) = true := by simp; omega
            have hno : Hid (¬ Plan l) := not_plan_bad hx (by unfold GoodC; simp; try omega)
            clear hx hp
            go_wp2_with fail
            go_quiet (fail)
            go_wp2_with fail
            go_ret
            exact ⟨fun h => absurd h hno.out, fun _ => rfl, below_drewN (hbel.out.alloc hbel.out.size _) _⟩
          · -- was true, is false: n1
            have h0 : (new != 0) = true := by simp; omega
            have hno : Hid (¬ Plan l) := not_plan_bad hx (by unfold GoodC; simp; try omega)
            clear hx hp
            go_wp2_with fail
            go_quiet (fail)
            go_wp2_with fail
            go_ret
            exact ⟨fun h => absurd h hno.out, fun _ => rfl, below_drewN (hbel.out.alloc hbel.out.size _) _⟩
        · have hd : decide (key ≤ pkey) = true := by simp; omega
          rcases (shape was is old new) with ⟨rfl, rfl⟩ | ⟨rfl, rfl, h1⟩ | ⟨rfl, rfl, h1⟩ | ⟨rfl, rfl⟩ | ⟨rfl, rfl, h1⟩ | ⟨rfl, rfl, h1⟩
          · -- was true, is true: trivial
            have hno : Hid (¬ Plan l) := not_plan_key hx hp (by simp; omega)
            clear hx hp
            go_wp2_with fail
            go_quiet (fail)
            go_wp2_with fail
            go_ret
            exact ⟨fun h => absurd h hno.out, fun _ => rfl, below_drewN (hbel.out.alloc hbel.out.size _) _⟩
          · -- was true, is false: n0
            have h0 : (new != 0) = false := by simp; omega
            have hno : Hid (¬ Plan l) := not_plan_key hx hp (by simp; omega)
            clear hx hp
            go_wp2_with fail
            go_quiet (fail)
            go_wp2_with fail
            go_ret
            exact ⟨fun h => absurd h hno.out, fun _ => rfl, below_drewN (hbel.out.alloc hbel.out.size _) _⟩
          · -- was false, is true: o0
            have h0 : (old != 0) = false := by simp; omega
            have hno : Hid (¬ Plan l) := not_plan_key hx hp (by simp; omega)
            clear hx hp
            go_wp2_with fail
            go_quiet (fail)
            go_wp2_with fail
            go_ret
            exact ⟨fun h => absurd h hno.out, fun _ => rfl, below_drewN (hbel.out.alloc hbel.out.size _) _⟩
          · -- was false, is false: bb
            have hno : Hid (¬ Plan l) := not_plan_bad hx (by unfold GoodC; simp; try omega)
            clear hx hp
            go_wp2_with fail
            go_quiet (fail)
            go_wp2_with fail
            go_ret
            exact ⟨fun h => absurd h hno.out, fun _ => rfl, below_drewN (hbel.out.alloc hbel.out.size _) _⟩
          · -- was false, is true: o1
            have h0 : (old != 0) = true := by simp; omega
            have hno : Hid (¬ Plan l) := not_plan_bad hx (by unfold GoodC; simp; try omega)
            clear hx hp
            go_wp2_with fail
            go_quiet (fail)
            go_wp2_with fail
            go_ret
            exact ⟨fun h => absurd h hno.out, fun _ => rfl, below_drewN (hbel.out.alloc hbel.out.size _) _⟩
          · -- was true, is false: n1
            have h0 : (new != 0) = true := by simp; omega
            have hno : Hid (¬ Plan l) := not_plan_bad hx (by unfold GoodC; simp; try omega)
            clear hx hp
            go_wp2_with fail
            go_quiet (fail)
            go_wp2_with fail
            go_ret
            exact ⟨fun h => absurd h hno.out, fun _ => rfl, below_drewN (hbel.out.alloc hbel.out.size _) _⟩
    · obtain rfl : k = n := by omega
      have hplan := Lib.hid (plan_of (chs_n hr.out) hall.out)
      go_wp2
      go_ret
      exact ⟨fun _ => rfl, fun h => absurd hplan.out h, hbel.out⟩
end Go.Proofs.Ytlaocajjenfgpaa
