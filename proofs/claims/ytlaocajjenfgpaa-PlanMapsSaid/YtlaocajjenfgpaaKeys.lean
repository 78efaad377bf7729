/- The reference's keys, merged and find, walked (printed by gen_keys.py). -/
import Derived.Test.YtlaocajjenfgpaaInv
import Derived.Test.YtlaocajjenfgpaaThenM
import Derived.Test.YtlaocajjenfgpaaThenW
import Derived.Test.YtlaocajjenfgpaaDraws
import Derived.Laws.ResultCell
namespace Go.Proofs.Ytlaocajjenfgpaa
open Go Go.RowKit
set_option linter.unusedVariables false

def us (l : List Int) : List Value := l.map (Value.int .u64)
theorem us_append (a b : List Int) : us (a ++ b) = us a ++ us b := List.map_append ..
theorem us_one (x : Int) : us [x] = [.int .u64 x] := rfl
theorem us_len (l : List Int) : (us l).length = l.length := List.length_map ..
theorem us_all (l : List Int) : ∀ u ∈ us l, u.oneCell' = true := by
  intro u hu
  obtain ⟨x, _, rfl⟩ := List.mem_map.1 hu
  rfl
theorem u_one (x : Int) : ∀ u ∈ [Value.int .u64 x], u.oneCell' = true := us_all [x]
theorem us_n {w : World} {B n : Nat} {A : Option Addr} {l : List Int} (h : Reads w B 1 A n (us l)) : l.length = n := by have := h.1; rw [us_len] at this; omega
theorem us_at {w : World} {B n b o : Nat} {l : List Int} {k : Nat} (h : Reads w B 1 (some ⟨b, o, none⟩) n (us l)) (hk : k < n) : ∃ x : Int, l[k]? = some x ∧ w.cell? ⟨b, o + k, none⟩ = some (.int .u64 x) := by
  obtain ⟨ad, e, _, hc⟩ := h.2 (by omega)
  obtain rfl := Option.some.inj e
  have hl : k < l.length := by have := us_n h; omega
  refine ⟨l[k], List.getElem?_eq_getElem hl, ?_⟩
  have := hc k (.int .u64 l[k]) (by unfold us; rw [List.getElem?_map, List.getElem?_eq_getElem hl]; rfl)
  rwa [Addr.add_lit] at this
theorem keys_take {l : List Chg} {k : Nat} {c : Chg} (h : l[k]? = some c) : keysOf (l.take (k + 1)) = keysOf (l.take k) ++ [c.key] := by
  unfold keysOf
  rw [List.take_add_one, h, List.map_append]
  rfl
theorem keys_len (l : List Chg) : (keysOf l).length = l.length := List.length_map ..

set_option maxHeartbeats 1000000 in
theorem keys_any (l : List Chg) (A : Option Addr) (n c : Nat) (w : World) (hr : Hid (Reads w w.heap.size 5 A n (chs l))) (hn : n ≤ 1000000) :
    Calls Try.prog 46 #[.slice A n c] w fun e w' => ∃ A' c', e = .returned (.slice A' n c') ∧ w'.ownsRow w.heap.size 23 1 (.slice A' n c') n (us (keysOf l)) ∧ Below w.heap.size w w' := by
  obtain ⟨i0, hi0, hz0, hz1, hz2⟩ := info_parts infoU64
  have hlen := Lib.hid (chs_n hr.out)
  go_enter Try.func46, Try.ntmps46
  go_wp2_with fail
  go_loopw [3, 4] (fun v i wr => ∃ k : Nat, k ≤ n ∧ i = .int .i64 k ∧ Hid (wr.ownsRow w.heap.size 23 1 v k (us (keysOf (l.take k)))) ∧ Hid (Below w.heap.size w wr)) (fun _ i _ => n - (intOf i).toNat)
  case atStart => exact ⟨0, by omega, rfl, World.ownsRow_nil _ _ _ _, Below.refl _ _⟩
  case round =>
    obtain ⟨k, hk, rfl, hown, hbel⟩ := hrel
    have hsz := Lib.hid hbel.out.size
    by_cases hlt : k < n
    · obtain ⟨b, o, rfl, hbB⟩ := reads_head hr.out (by omega) (by decide)
      obtain ⟨c, hx, c0, c1, c2, c3, c4⟩ := chs_at (hr.out.below hbel.out) hlt
      have hsn := Lib.hid (keys_take hx)
      obtain ⟨key, was, old, is, new⟩ := c
      dsimp only at c0 c1 c2 c3 c4
      have j0 : (0 : Int) ≤ (k : Int) := by omega
      have j1 : (k : Int) < (n : Int) := by omega
      have hbw : b < wr.heap.size := by have := hsz.out; omega
      clear hx c1 c2 c3 c4
      go_wp2_with (at_builtin; refine wpList_append_any _ rfl (.tmp 11) (.tmp 17) 73 rfl w.heap.size 23 i0 _ 1 8 Try.underlying73 hi0 hz0 hz1 hz2 rfl (by decide) u3 k _ rfl (hown.out.alloc _) (wr.heap.size + 1) (some ⟨wr.heap.size, 0, none⟩) 1 1 [.int .u64 key] rfl ((reads_at wr _ [.int .u64 key] 1 _ rfl rfl).more (by simp)) (u_one _) (by unfold maxLen; omega) (by omega) (by have := hsz.out; simp; omega) ?_; intro v1 w4 hown1 hg1 hat1)
      have hbel4 : Hid (Below w.heap.size w w4) := (hbel.out.alloc hsz.out _).grown hg1 (by have := hsz.out; simp; omega) (fun q hq => (hown.out.lt q hq).1)
      have ho4 : Hid (w4.ownsRow w.heap.size 23 1 v1 (k + 1) (us (keysOf (l.take (k + 1))))) := by
        unfold Hid
        rw [hsn.out, us_append, us_one]
        exact hown1
      clear hown1 hg1 hat1
      go_wp2
      go_roundw
      case rel => exact ⟨k + 1, by omega, by go_num, ho4, hbel4⟩
      case measure => simp [intOf]; omega
    · obtain rfl : k = n := by omega
      have ho := hown.out
      rw [List.take_of_length_le (by have := hlen.out; omega)] at ho
      have hO := Lib.hid ho
      obtain ⟨A', c', rfl, _⟩ := own_form ho
      clear ho
      go_wp2
      go_ret
      exact ⟨A', c', rfl, hO.out, hbel.out⟩

section
variable {M os : List Int} {a b : List Int} {i k : Nat} {x y : Int}
theorem mrgIn_cons (x : Int) (f : List Int → List Int) (y : Int) (b : List Int) : mrgIn x f (y :: b) = if x < y then x :: f (y :: b) else if x = y then y :: f b else y :: mrgIn x f b := rfl
theorem mrg_cons (x : Int) (a b : List Int) : mrg (x :: a) b = mrgIn x (mrg a) b := rfl
theorem mrg_lt (h : M = os ++ mrg (a.drop i) (b.drop k)) (hx : a[i]? = some x) (hy : b[k]? = some y) (hl : x < y) : M = (os ++ [x]) ++ mrg (a.drop (i + 1)) (b.drop k) := by
  rw [h, drop_get hx, drop_get hy, mrg_cons, mrgIn_cons, if_pos hl]
  simp
theorem mrg_eq (h : M = os ++ mrg (a.drop i) (b.drop k)) (hx : a[i]? = some x) (hy : b[k]? = some y) (hl : x = y) : M = (os ++ [y]) ++ mrg (a.drop (i + 1)) (b.drop (k + 1)) := by
  rw [h, drop_get hx, drop_get hy, mrg_cons, mrgIn_cons, if_neg (by omega), if_pos hl]
  simp
theorem mrg_gt (h : M = os ++ mrg (a.drop i) (b.drop k)) (hx : a[i]? = some x) (hy : b[k]? = some y) (hl : y < x) : M = (os ++ [y]) ++ mrg (a.drop i) (b.drop (k + 1)) := by
  rw [h, drop_get hx, drop_get hy, mrg_cons, mrgIn_cons, if_neg (by omega), if_neg (by omega)]
  simp [mrg_cons]
theorem mrg_b0 (h : M = os ++ mrg (a.drop i) (b.drop k)) (hx : a[i]? = some x) (hk : b.length ≤ k) : M = (os ++ [x]) ++ mrg (a.drop (i + 1)) (b.drop k) := by
  rw [h, drop_get hx, List.drop_of_length_le hk, mrg_cons]
  simp [mrgIn]
theorem mrg_a0 (h : M = os ++ mrg (a.drop i) (b.drop k)) (hi : a.length ≤ i) (hy : b[k]? = some y) : M = (os ++ [y]) ++ mrg (a.drop i) (b.drop (k + 1)) := by
  rw [h, List.drop_of_length_le hi, drop_get hy]
  simp [mrg]
theorem mrg_00 (h : M = os ++ mrg (a.drop i) (b.drop k)) (hi : a.length ≤ i) (hk : b.length ≤ k) : M = os := by
  rw [h, List.drop_of_length_le hi, List.drop_of_length_le hk]
  simp [mrg]
end

set_option maxRecDepth 100000 in
set_option maxHeartbeats 2000000 in
theorem merged_any (a b : List Int) (A A' : Option Addr) (n m c c' : Nat) (w : World) (hr : Hid (Reads w w.heap.size 1 A n (us a))) (hr' : Hid (Reads w w.heap.size 1 A' m (us b))) (hn : n ≤ 1000000) (hm : m ≤ 1000000) :
    Calls Try.prog 44 #[.slice A n c, .slice A' m c'] w fun e w' => ∃ A1 c1, e = .returned (.slice A1 (mrg a b).length c1) ∧ w'.ownsRow w.heap.size 23 1 (.slice A1 (mrg a b).length c1) (mrg a b).length (us (mrg a b)) ∧ (mrg a b).length ≤ n + m ∧ Below w.heap.size w w' := by
  obtain ⟨i0, hi0, hz0, hz1, hz2⟩ := info_parts infoU64
  have hla := Lib.hid (us_n hr.out)
  have hlb := Lib.hid (us_n hr'.out)
  go_enter Try.func44, Try.ntmps44
  go_wp2_with fail
  go_loopw [5, 6, 7] (fun v p q wr => ∃ (i k : Nat) (os : List Int), i ≤ n ∧ k ≤ m ∧ p = .int .i64 i ∧ q = .int .i64 k ∧ os.length ≤ i + k ∧ Hid (wr.ownsRow w.heap.size 23 1 v os.length (us os)) ∧ Hid (Below w.heap.size w wr) ∧ Hid (mrg a b = os ++ mrg (a.drop i) (b.drop k))) (fun _ p q _ => (n - (intOf p).toNat) + (m - (intOf q).toNat))
  case atStart => exact ⟨0, 0, [], by omega, by omega, rfl, rfl, by simp, World.ownsRow_nil _ _ _ _, Below.refl _ _, by unfold Hid; simp⟩
  case round =>
    obtain ⟨i, k, os, hi, hk, rfl, rfl, hos, hown, hbel, hT⟩ := hrel
    have hsz := Lib.hid hbel.out.size
    have hlo : os.length ≤ 2000000 := by omega
    have j0 : (0 : Int) ≤ (i : Int) := by omega
    have q0 : (0 : Int) ≤ (k : Int) := by omega
    by_cases hlt : i < n
    · obtain ⟨ba, oa, rfl, hbA⟩ := reads_head hr.out (by omega) (by decide)
      obtain ⟨x, hx, c0⟩ := us_at (hr.out.below hbel.out) hlt
      have hX := Lib.hid hx
      clear hx
      have j1 : (i : Int) < (n : Int) := by omega
      have hba : ba < wr.heap.size := by have := hsz.out; omega
      have hd1 : decide ((i : Int) < (n : Int)) = true := by simp; omega
      by_cases hlt2 : k < m
      · obtain ⟨bb, ob, rfl, hbB⟩ := reads_head hr'.out (by omega) (by decide)
        obtain ⟨y, hy, d0⟩ := us_at (hr'.out.below hbel.out) hlt2
        have hY := Lib.hid hy
        clear hy
        have q1 : (k : Int) < (m : Int) := by omega
        have hbb : bb < wr.heap.size := by have := hsz.out; omega
        have hd2 : ((k : Int) == (m : Int)) = false := by simp; omega
        rcases Int.lt_trichotomy x y with h | h | h
        · have hT2 := Lib.hid (mrg_lt hT.out hX.out hY.out h)
          have hd3 : decide (x < y) = true := by simpa using h
          clear h hT
          go_wp2_with fail
          go_quiet (fail)
          go_wp2_with (at_builtin; refine wpList_append_any _ rfl (.tmp 39) (.tmp 44) 73 rfl w.heap.size 23 i0 _ 1 8 Try.underlying73 hi0 hz0 hz1 hz2 rfl (by decide) u5 os.length (us os) rfl (own_drewN (hown.out.alloc _) _) (wr.heap.size + 1) (some ⟨wr.heap.size, 0, none⟩) 1 1 [.int .u64 x] rfl (((reads_at wr _ [.int .u64 x] 1 _ rfl rfl).more (by simp)).drewN _) (u_one _) (by unfold maxLen; omega) (by omega) (by have := hsz.out; simp; omega) ?_; intro v1 w4 hown1 hg1 hat1)
          have hbel4 : Hid (Below w.heap.size w w4) := (below_drewN (hbel.out.alloc hsz.out _) _).grown hg1 (by have := hsz.out; simp; omega) (fun q hq => (hown.out.lt q hq).1)
          have ho4 : Hid (w4.ownsRow w.heap.size 23 1 v1 (os ++ [x]).length (us (os ++ [x]))) := by
            unfold Hid
            rw [us_append, us_one, List.length_append]
            exact hown1
          clear hown1 hg1 hat1
          go_wp2
          go_roundw
          case rel => exact ⟨i + 1, k, os ++ [x], by omega, by omega, by go_num, by go_num, by simp; omega, ho4, hbel4, hT2⟩
          case measure => simp [intOf]; omega
        · have hT2 := Lib.hid (mrg_eq hT.out hX.out hY.out h)
          subst h
          have hd3 : decide (x < x) = false := by simp
          have hd4 : (x == x) = true := by simp
          clear hT
          go_wp2_with fail
          go_quiet (fail)
          go_wp2_with fail
          go_quiet (fail)
          go_wp2_with (at_builtin; refine wpList_append_any _ rfl (.tmp 65) (.tmp 70) 73 rfl w.heap.size 23 i0 _ 1 8 Try.underlying73 hi0 hz0 hz1 hz2 rfl (by decide) u5 os.length (us os) rfl (own_drewN (hown.out.alloc _) _) (wr.heap.size + 1) (some ⟨wr.heap.size, 0, none⟩) 1 1 [.int .u64 x] rfl (((reads_at wr _ [.int .u64 x] 1 _ rfl rfl).more (by simp)).drewN _) (u_one _) (by unfold maxLen; omega) (by omega) (by have := hsz.out; simp; omega) ?_; intro v1 w4 hown1 hg1 hat1)
          have hbel4 : Hid (Below w.heap.size w w4) := (below_drewN (hbel.out.alloc hsz.out _) _).grown hg1 (by have := hsz.out; simp; omega) (fun q hq => (hown.out.lt q hq).1)
          have ho4 : Hid (w4.ownsRow w.heap.size 23 1 v1 (os ++ [x]).length (us (os ++ [x]))) := by
            unfold Hid
            rw [us_append, us_one, List.length_append]
            exact hown1
          clear hown1 hg1 hat1
          go_wp2
          go_roundw
          case rel => exact ⟨i + 1, k + 1, os ++ [x], by omega, by omega, by go_num, by go_num, by simp; omega, ho4, hbel4, hT2⟩
          case measure => simp [intOf]; omega
        · have hT2 := Lib.hid (mrg_gt hT.out hX.out hY.out h)
          have hd3 : decide (x < y) = false := by simp; omega
          have hd4 : (x == y) = false := by simp; omega
          clear h hT
          go_wp2_with fail
          go_quiet (fail)
          go_wp2_with fail
          go_quiet (fail)
          go_wp2_with (at_builtin; refine wpList_append_any _ rfl (.tmp 65) (.tmp 70) 73 rfl w.heap.size 23 i0 _ 1 8 Try.underlying73 hi0 hz0 hz1 hz2 rfl (by decide) u5 os.length (us os) rfl (own_drewN (hown.out.alloc _) _) (wr.heap.size + 1) (some ⟨wr.heap.size, 0, none⟩) 1 1 [.int .u64 y] rfl (((reads_at wr _ [.int .u64 y] 1 _ rfl rfl).more (by simp)).drewN _) (u_one _) (by unfold maxLen; omega) (by omega) (by have := hsz.out; simp; omega) ?_; intro v1 w4 hown1 hg1 hat1)
          have hbel4 : Hid (Below w.heap.size w w4) := (below_drewN (hbel.out.alloc hsz.out _) _).grown hg1 (by have := hsz.out; simp; omega) (fun q hq => (hown.out.lt q hq).1)
          have ho4 : Hid (w4.ownsRow w.heap.size 23 1 v1 (os ++ [y]).length (us (os ++ [y]))) := by
            unfold Hid
            rw [us_append, us_one, List.length_append]
            exact hown1
          clear hown1 hg1 hat1
          go_wp2
          go_roundw
          case rel => exact ⟨i, k + 1, os ++ [y], by omega, by omega, by go_num, by go_num, by simp; omega, ho4, hbel4, hT2⟩
          case measure => simp [intOf]; omega
      · have hT2 := Lib.hid (mrg_b0 hT.out hX.out (by have := hlb.out; omega))
        have hd2 : ((k : Int) == (m : Int)) = true := by simp; omega
        have q1 : decide ((k : Int) < (m : Int)) = false := by simp; omega
        clear hT
        go_wp2_with fail
        go_quiet (fail)
        go_wp2_with (at_builtin; refine wpList_append_any _ rfl (.tmp 39) (.tmp 44) 73 rfl w.heap.size 23 i0 _ 1 8 Try.underlying73 hi0 hz0 hz1 hz2 rfl (by decide) u5 os.length (us os) rfl (own_drewN (hown.out.alloc _) _) (wr.heap.size + 1) (some ⟨wr.heap.size, 0, none⟩) 1 1 [.int .u64 x] rfl (((reads_at wr _ [.int .u64 x] 1 _ rfl rfl).more (by simp)).drewN _) (u_one _) (by unfold maxLen; omega) (by omega) (by have := hsz.out; simp; omega) ?_; intro v1 w4 hown1 hg1 hat1)
        have hbel4 : Hid (Below w.heap.size w w4) := (below_drewN (hbel.out.alloc hsz.out _) _).grown hg1 (by have := hsz.out; simp; omega) (fun q hq => (hown.out.lt q hq).1)
        have ho4 : Hid (w4.ownsRow w.heap.size 23 1 v1 (os ++ [x]).length (us (os ++ [x]))) := by
          unfold Hid
          rw [us_append, us_one, List.length_append]
          exact hown1
        clear hown1 hg1 hat1
        go_wp2
        go_roundw
        case rel => exact ⟨i + 1, k, os ++ [x], by omega, by omega, by go_num, by go_num, by simp; omega, ho4, hbel4, hT2⟩
        case measure => simp [intOf]; omega
    · have hd1 : decide ((i : Int) < (n : Int)) = false := by simp; omega
      by_cases hlt2 : k < m
      · obtain ⟨bb, ob, rfl, hbB⟩ := reads_head hr'.out (by omega) (by decide)
        obtain ⟨y, hy, d0⟩ := us_at (hr'.out.below hbel.out) hlt2
        have hT2 := Lib.hid (mrg_a0 hT.out (by have := hla.out; omega) hy)
        clear hy hT
        have q1 : (k : Int) < (m : Int) := by omega
        have hbb : bb < wr.heap.size := by have := hsz.out; omega
        have hd2 : ((k : Int) == (m : Int)) = false := by simp; omega
        go_wp2_with fail
        go_quiet (fail)
        go_wp2_with fail
        go_quiet (fail)
        go_wp2_with (at_builtin; refine wpList_append_any _ rfl (.tmp 65) (.tmp 70) 73 rfl w.heap.size 23 i0 _ 1 8 Try.underlying73 hi0 hz0 hz1 hz2 rfl (by decide) u5 os.length (us os) rfl (own_drewN (hown.out.alloc _) _) (wr.heap.size + 1) (some ⟨wr.heap.size, 0, none⟩) 1 1 [.int .u64 y] rfl (((reads_at wr _ [.int .u64 y] 1 _ rfl rfl).more (by simp)).drewN _) (u_one _) (by unfold maxLen; omega) (by omega) (by have := hsz.out; simp; omega) ?_; intro v1 w4 hown1 hg1 hat1)
        have hbel4 : Hid (Below w.heap.size w w4) := (below_drewN (hbel.out.alloc hsz.out _) _).grown hg1 (by have := hsz.out; simp; omega) (fun q hq => (hown.out.lt q hq).1)
        have ho4 : Hid (w4.ownsRow w.heap.size 23 1 v1 (os ++ [y]).length (us (os ++ [y]))) := by
          unfold Hid
          rw [us_append, us_one, List.length_append]
          exact hown1
        clear hown1 hg1 hat1
        go_wp2
        go_roundw
        case rel => exact ⟨i, k + 1, os ++ [y], by omega, by omega, by go_num, by go_num, by simp; omega, ho4, hbel4, hT2⟩
        case measure => simp [intOf]; omega
      · have hM := Lib.hid (mrg_00 hT.out (by have := hla.out; omega) (by have := hlb.out; omega))
        have hd2 : decide ((k : Int) < (m : Int)) = false := by simp; omega
        have hO : Hid (wr.ownsRow w.heap.size 23 1 u5 (mrg a b).length (us (mrg a b))) := by
          unfold Hid
          rw [hM.out]
          exact hown.out
        have hL : Hid ((mrg a b).length ≤ n + m) := by
          unfold Hid
          rw [hM.out]
          omega
        obtain ⟨A', c', rfl, _⟩ := own_form hO.out
        go_wp2
        go_ret
        exact ⟨A', c', rfl, hO.out, hL.out, hbel.out⟩

/-- What find returns. -/
def FindEnd (l : List Chg) (k : Int) (w : World) (e : Ending) (w' : World) : Prop :=
  (∀ c, look Chg.key l k = some c → e = .returned (.tuple #[chV c, .bool true])) ∧ (look Chg.key l k = none → e = .returned (.tuple #[chV ⟨0, false, 0, false, 0⟩, .bool false])) ∧ Below w.heap.size w w'
theorem look_take {l : List Chg} {k : Int} {i : Nat} {c : Chg} (h : look Chg.key (l.take i) k = none) (hc : l[i]? = some c) : look Chg.key l k = if c.key = k then some c else look Chg.key (l.drop (i + 1)) k := by
  have : l = l.take i ++ c :: l.drop (i + 1) := by
    rw [← drop_get hc, List.take_append_drop]
  conv => lhs; rw [this]
  unfold look at h ⊢
  rw [List.find?_append, h]
  exact look_cons (key := Chg.key) c _ k
theorem look_take_no {l : List Chg} {k : Int} {i : Nat} {c : Chg} (h : look Chg.key (l.take i) k = none) (hc : l[i]? = some c) (hk : c.key ≠ k) : look Chg.key (l.take (i + 1)) k = none := by
  rw [List.take_add_one, hc]
  unfold look at h ⊢
  rw [List.find?_append, h]
  simp [hk]
set_option maxHeartbeats 1000000 in
theorem find_any (l : List Chg) (key0 : Int) (A : Option Addr) (n c : Nat) (w : World) (hr : Hid (Reads w w.heap.size 5 A n (chs l))) (hn : n ≤ 1000000) :
    Calls Try.prog 47 #[.slice A n c, .int .u64 key0] w (FindEnd l key0 w) := by
  have hlen := Lib.hid (chs_n hr.out)
  go_enter Try.func47, Try.ntmps47
  go_wp2_with fail
  go_loopw [6] (fun i wr => ∃ k : Nat, k ≤ n ∧ i = .int .i64 k ∧ Hid (Below w.heap.size w wr) ∧ Hid (look Chg.key (l.take k) key0 = none) ∧ Hid (Blk wr w.heap.size 37 #[.int .u64 0, .bool false, .int .u64 0, .bool false, .int .u64 0])) (fun i _ => n - (intOf i).toNat)
  case atStart => exact ⟨0, by omega, rfl, (Below.refl _ _).alloc (Nat.le_refl _) _, by simp [Hid, look], Blk.new w _ _⟩
  case round =>
    obtain ⟨k, hk, rfl, hbel, hno, hB⟩ := hrel
    have hsz := Lib.hid hbel.out.size
    have C0 := hB.out.cell 0
    have C1 := hB.out.cell 1
    have C2 := hB.out.cell 2
    have C3 := hB.out.cell 3
    have C4 := hB.out.cell 4
    have F0 := hB.out.frozen 0
    have F1 := hB.out.frozen 1
    have F2 := hB.out.frozen 2
    have F3 := hB.out.frozen 3
    have F4 := hB.out.frozen 4
    have hgl := hB.out.lt
    simp at C0 C1 C2 C3 C4
    by_cases hlt : k < n
    · obtain ⟨b, o, rfl, hbB⟩ := reads_head hr.out (by omega) (by decide)
      obtain ⟨c, hx, c0, c1, c2, c3, c4⟩ := chs_at (hr.out.below hbel.out) hlt
      have hL := Lib.hid (look_take hno.out hx)
      have hN := Lib.hid (fun h => look_take_no hno.out hx h)
      obtain ⟨key, was, old, is, new⟩ := c
      dsimp only at c0 c1 c2 c3 c4
      have j0 : (0 : Int) ≤ (k : Int) := by omega
      have j1 : (k : Int) < (n : Int) := by omega
      have hbw : b < wr.heap.size := by have := hsz.out; omega
      clear hx
      by_cases he : key = key0
      · have hF := Lib.hid (hL.out.trans (if_pos he))
        subst he
        clear hL hN
        go_wp2
        (try simp only [Exit.inBlock, Exit.then])
        refine bodyPost_ret (v := .tuple #[chV ⟨key, was, old, is, new⟩, .bool true]) ?_ rfl ?_
        · rw [results_cell_tmp rfl]
          go_simp
          rfl
        · refine ⟨fun c h => ?_, fun h => ?_, ?_⟩
          · obtain rfl := Option.some.inj (hF.out.symm.trans h)
            rfl
          · rw [hF.out] at h
            cases h
          · (repeat' (first | with_reducible exact hbel.out | (with_reducible refine Below.setCell ?_ (by first | (simp; omega) | simp | omega) _) | (with_reducible refine Below.alloc ?_ (by first | (simp; omega) | simp | omega) _) | with_reducible refine below_drewN ?_ _ | with_reducible refine Below.drew ?_))
      · go_wp2
        go_roundw
        case rel => exact ⟨k + 1, by omega, by go_num, hbel, hN.out he, hB⟩
        case measure => simp [intOf]; omega
    · obtain rfl : k = n := by omega
      have hno := hno.out
      rw [List.take_of_length_le (by have := hlen.out; omega)] at hno
      have hNo := Lib.hid hno
      clear hno
      go_wp2
      (try simp only [Exit.inBlock, Exit.then])
      refine bodyPost_ret (v := .tuple #[chV ⟨0, false, 0, false, 0⟩, .bool false]) ?_ rfl ?_
      · rw [results_cell_tmp rfl]
        go_simp
        rfl
      · refine ⟨fun c h => ?_, fun h => rfl, ?_⟩
        · rw [hNo.out] at h
          cases h
        · (repeat' (first | with_reducible exact hbel.out | (with_reducible refine Below.setCell ?_ (by first | (simp; omega) | simp | omega) _) | (with_reducible refine Below.alloc ?_ (by first | (simp; omega) | simp | omega) _) | with_reducible refine below_drewN ?_ _ | with_reducible refine Below.drew ?_))
end Go.Proofs.Ytlaocajjenfgpaa
