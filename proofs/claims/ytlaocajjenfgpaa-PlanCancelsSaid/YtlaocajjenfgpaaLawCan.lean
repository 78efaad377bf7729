/- The law PlanCancels, walked. -/
import Derived.Test.YtlaocajjenfgpaaThenW
import Derived.Test.YtlaocajjenfgpaaDelW
import Derived.Test.YtlaocajjenfgpaaSame
import Derived.Test.YtlaocajjenfgpaaOpenS
import Derived.Test.YtlaocajjenfgpaaAppM
namespace Go.Proofs.Ytlaocajjenfgpaa
open Go Go.RowKit
set_option linter.unusedVariables false

def canC (c : Chg) : Chg := ⟨c.key, true, c.old, true, c.old⟩
/-- What a plan and its inverse leave. -/
def cans (l : List Chg) : List Chg := (l.filter (·.was)).map canC
theorem cans_append (a b : List Chg) : cans (a ++ b) = cans a ++ cans b := by simp [cans]
theorem thn_inv : ∀ l, thn l (inv l) = some (cans l)
  | [] => rfl
  | c :: a => by
    show thnIn c (thn a) (invC c :: inv a) = _
    rw [thnIn_cons, if_neg (show ¬ (invC c).key < c.key by simp [invC]), if_pos (show (invC c).key = c.key from rfl), if_pos (show Meet c (invC c) from ⟨rfl, rfl⟩), thn_inv a]
    obtain ⟨key, was, old, is, new⟩ := c
    cases was <;> rfl
theorem cans_no {l : List Chg} {k : Nat} {c : Chg} (h : l[k]? = some c) (hw : c.was = false) : cans (l.take (k + 1)) = cans (l.take k) := by
  rw [List.take_add_one, h, cans_append]
  simp [cans, hw]
theorem cans_yes {l : List Chg} {k : Nat} {c : Chg} (h : l[k]? = some c) (hw : c.was = true) : (cans (l.take (k + 1))).length = (cans (l.take k)).length + 1 := by
  rw [List.take_add_one, h, cans_append]
  simp [cans, hw]
theorem cans_get {l : List Chg} {k : Nat} {c : Chg} (h : l[k]? = some c) (hw : c.was = true) : (cans l)[(cans (l.take k)).length]? = some (canC c) := by
  have : l = l.take k ++ c :: l.drop (k + 1) := by rw [← drop_get h, List.take_append_drop]
  have h2 : cans l = cans (l.take k) ++ cans (c :: l.drop (k + 1)) := by rw [← cans_append, ← this]
  rw [h2, List.getElem?_append_right (Nat.le_refl _)]
  simp [cans, hw]
theorem cans_le (l : List Chg) : (cans l).length ≤ l.length := by
  unfold cans
  rw [List.length_map]
  exact List.length_filter_le _ _

set_option maxRecDepth 100000 in
set_option maxHeartbeats 600000 in
theorem cancels_law (a0 : Option Addr) (len0 cap0 : Nat) (l : List Chg) (w : World) (h0 : IsChanges w a0 len0 cap0 l) (hz : len0 * 40 ≤ 140737488351232) :
    Calls Try.prog 5 #[.slice a0 len0 cap0] w fun e w' => e = .returned (.bool true) ∧ Below w.heap.size w w' := by
  have hr : Hid (Reads w w.heap.size 5 a0 len0 (chs l)) := h0.reads
  have hm0 : len0 ≤ 9223372036854775807 := by have h1 := h0.le; have h2 := h0.cap; unfold maxLen at h2; omega
  have hlen := Lib.hid (chs_n hr.out)
  clear h0
  go_enter Try.func5, Try.ntmps5
  go_wp2_with fail
  refine (invert_any l a0 len0 cap0 w hr hz).mono ?_
  rintro e w1 ⟨h1, h2, hb⟩
  have hb1 : Hid (Below w.heap.size w w1) := hb
  clear hb
  by_cases hbig : 60 < len0
  · have hd : decide ((60 : Int) < (len0 : Int)) = true := by simp; omega
    by_cases hp : Plan l
    · obtain ⟨A, c, rfl, _⟩ := h1 hp
      clear h1 h2 hp
      go_wp2_with fail
      refine (known_any _).mono ?_
      rintro e w2 ⟨rfl, hb⟩
      have hb2 : Hid (Below w.heap.size w w2) := hb1.out.trans (hb.mono hb1.out.size)
      clear hb
      go_wp2_with fail
      go_ret
      exact ⟨rfl, hb2.out⟩
    · obtain rfl := h2 hp
      clear h1 h2 hp
      go_wp2_with fail
      refine (known_any _).mono ?_
      rintro e w2 ⟨rfl, hb⟩
      have hb2 : Hid (Below w.heap.size w w2) := hb1.out.trans (hb.mono hb1.out.size)
      clear hb
      go_wp2_with fail
      go_ret
      exact ⟨rfl, hb2.out⟩
  · have hd : decide ((60 : Int) < (len0 : Int)) = false := by simp; omega
    by_cases hp : Plan l
    · obtain ⟨A, c, rfl, ho⟩ := h1 hp
      rw [hlen.out] at ho ⊢
      have hri : Hid (Reads w1 w1.heap.size 5 A len0 (chs (inv l))) := Reads.of_own ho
      obtain ⟨A', c', he, hc1, hc2⟩ := own_form ho
      have hcc : c = c' := by injection he
      subst hcc
      clear he
      unfold maxLen at hc2
      have hPI := Lib.hid (And.intro hp (plan_inv hp))
      have hs1 := hb1.out.size
      have hr1 : Hid (Reads w1 w1.heap.size 5 a0 len0 (chs l)) := (hr.out.below hb1.out).more hs1
      have hc3 : c ≤ 9223372036854775807 := by omega
      have hn1 : len0 ≤ 100000 := by omega
      clear h1 h2 hp ho
      go_wp2_with fail
      refine (then_any l (inv l) a0 A len0 len0 cap0 c w1 hr1 hri hn1 hn1 hc1 hc3).mono ?_
      rintro e w2 ⟨_, _, h3, hb⟩
      obtain ⟨At, ct, rfl, ho⟩ := h3 hPI.out (cans l) (thn_inv l)
      have hb2 : Hid (Below w.heap.size w w2) := hb1.out.trans (hb.mono hs1)
      have hs2 := hb2.out.size
      have hrt : Hid (Reads w2 w2.heap.size 5 At (cans l).length (chs (cans l))) := Reads.of_own ho
      have hra : Hid (Reads w2 w2.heap.size 5 a0 len0 (chs l)) := (hr.out.below hb2.out).more hs2
      have hcl := cans_le l
      rw [hlen.out] at hcl
      have hG := Lib.hid (fun k c h hw => cans_get (l := l) (k := k) (c := c) h hw)
      obtain ⟨m, hm⟩ : ∃ m, (cans l).length = m := ⟨_, rfl⟩
      rw [hm] at hcl hrt ⊢
      have hM := Lib.hid hm
      clear hm h3 hb ho hri hb1
      go_wp2_with fail
      go_loopw [6, 7] (fun q i wr => ∃ k : Nat, k ≤ len0 ∧ i = .int .i64 k ∧ q = .int .i64 (cans (l.take k)).length ∧ Hid (Below w2.heap.size w2 wr)) (fun _ i _ => len0 - (intOf i).toNat)
      case atStart => exact ⟨0, by omega, rfl, rfl, Below.refl _ _⟩
      case round =>
        obtain ⟨k, hk, rfl, rfl, hbel⟩ := hrel
        have hsz := hbel.out.size
        by_cases hlt : k < len0
        · obtain ⟨b, o, rfl, hbB⟩ := reads_head hra.out (by omega) (by decide)
          obtain ⟨c, hx, c0, c1, c2, c3, c4⟩ := chs_at (hra.out.below hbel.out) hlt
          have hbw : b < wr.heap.size := by omega
          have j0 : (0 : Int) ≤ (k : Int) := by omega
          have j1 : (k : Int) < (len0 : Int) := by omega
          rcases hw : c.was with _ | _
          · have hN := Lib.hid (cans_no hx hw)
            rw [hw] at c1
            clear hx
            go_wp2_with fail
            go_roundw
            case rel => exact ⟨k + 1, by omega, by go_num, by rw [hN.out], hbel⟩
            case measure => simp [intOf]; omega
          · have hY := Lib.hid (cans_yes hx hw)
            have hg := hG.out k c hx hw
            obtain ⟨q, hq⟩ : ∃ q, (cans (l.take k)).length = q := ⟨_, rfl⟩
            rw [hq] at hY hg ⊢
            clear hq
            have hqm : q < m := by rw [← hM.out]; exact (List.getElem?_eq_some_iff.1 hg).1
            obtain ⟨bt, ot, rfl, hbT⟩ := reads_head hrt.out (by omega) (by decide)
            obtain ⟨d, hy, d0, d1, d2, d3, d4⟩ := chs_at (hrt.out.below hbel.out) hqm
            obtain rfl := Option.some.inj (hg.symm.trans hy)
            obtain ⟨key, was, old, is, new⟩ := c
            dsimp only [canC] at c0 c1 c2 c3 c4 d0 d1 d2 d3 d4 hw
            subst hw
            have hbt : bt < wr.heap.size := by omega
            have q0 : (0 : Int) ≤ (q : Int) := by omega
            have q1 : (q : Int) < (m : Int) := by omega
            have q2 : decide ((m : Int) ≤ (q : Int)) = false := by simp; omega
            have heq : ∀ w, (Op.equalIn 10000 37 (.agg #[.int .u64 key, .bool true, .int .u64 old, .bool true, .int .u64 old]) (.agg #[.int .u64 key, .bool true, .int .u64 old, .bool true, .int .u64 old])).run Try.prog w = .ok true w := fun w => by rw [eqC]; simp
            clear hx hy hg
            go_wp2_with fail
            go_quiet (fail)
            go_wp2_with fail
            go_roundw
            case rel => exact ⟨k + 1, by omega, by go_num, by rw [hY.out]; go_num, below_drewN hbel.out _⟩
            case measure => simp [intOf]; omega
        · obtain rfl : k = len0 := by omega
          have hT : Hid ((cans (l.take k)).length = m) := by
            unfold Hid
            rw [List.take_of_length_le (by rw [hlen.out]; exact Nat.le_refl _)]
            exact hM.out
          rw [hT.out]
          have hbw : Hid (Below w.heap.size w wr) := hb2.out.trans (hbel.out.mono hs2)
          clear hT
          have hmm : ((m : Int) == (m : Int)) = true := by simp
          go_wp2_with fail
          refine (known_any _).mono ?_
          rintro e w3 ⟨rfl, hb⟩
          have hb3 : Hid (Below w.heap.size w w3) := hbw.out.trans (hb.mono hbw.out.size)
          clear hb
          go_wp2_with fail
          go_ret
          exact ⟨rfl, hb3.out⟩
    · obtain rfl := h2 hp
      clear h1 h2 hp
      go_wp2_with fail
      refine (known_any _).mono ?_
      rintro e w2 ⟨rfl, hb⟩
      have hb2 : Hid (Below w.heap.size w w2) := hb1.out.trans (hb.mono hb1.out.size)
      clear hb
      go_wp2_with fail
      go_ret
      exact ⟨rfl, hb2.out⟩
end Go.Proofs.Ytlaocajjenfgpaa
