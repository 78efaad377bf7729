/- Invert, walked: the program's and the reference's; two lists of changes compared. -/
import Derived.Test.YtlaocajjenfgpaaCheck
import Derived.Test.YtlaocajjenfgpaaSorted
import Derived.Deep.RegionHeld3
namespace Go.Proofs.Ytlaocajjenfgpaa
open Go Go.RowKit
set_option linter.unusedVariables false

theorem infoChg : (Try.prog.info? 37).map (fun i => (i.zero, i.size, i.bytes)) = some (some (.agg #[.int .u64 0, .bool false, .int .u64 0, .bool false, .int .u64 0]), 5, 40) := by kernel_rfl
theorem infoPair : (Try.prog.info? 47).map (fun i => (i.zero, i.size, i.bytes)) = some (some (.agg #[.int .u64 0, .int .u64 0]), 2, 16) := by kernel_rfl
theorem infoU64 : (Try.prog.info? 23).map (fun i => (i.zero, i.size, i.bytes)) = some (some (.int .u64 0), 1, 8) := by kernel_rfl

/-- The cells of a literal slice, behind its head. -/
theorem cells_new (w : World) (t : TypeId) (xs : List Value) (X : Nat) (hX : X = w.heap.size) : ∀ j u, xs[j]? = some u → (w.alloc (.cells xs.toArray t)).cell? ((⟨X, 0, none⟩ : Addr).add j) = some u := by
  subst hX
  intro j u hu
  have hb : Blk (w.alloc (.cells xs.toArray t)) w.heap.size t xs.toArray := Blk.new w t _
  rw [Addr.add_lit, Nat.zero_add, hb.cell]
  simpa using hu

def invC (c : Chg) : Chg := ⟨c.key, c.is, c.new, c.was, c.old⟩
def inv (l : List Chg) : List Chg := l.map invC
theorem inv_take {l : List Chg} {k : Nat} {c : Chg} (h : l[k]? = some c) : inv (l.take (k + 1)) = inv (l.take k) ++ [invC c] := by
  unfold inv
  rw [List.take_add_one, h, List.map_append]
  rfl
theorem chs_one1 (c : Chg) : chs [c] = chC c := by simp [chs]

/-- What Invert returns. -/
def InvEnd (l : List Chg) (w : World) (e : Ending) (w' : World) : Prop :=
  (Plan l → ∃ A c, e = .returned (.tuple #[.slice A l.length c, .int .i64 0]) ∧ w'.ownsRow w.heap.size 37 5 (.slice A l.length c) l.length (chs (inv l))) ∧
  (¬ Plan l → e = .returned (.tuple #[.slice none 0 0, .int .i64 2])) ∧ Below w.heap.size w w'

set_option maxHeartbeats 1000000 in
theorem invert_any (l : List Chg) (A : Option Addr) (n c : Nat) (w : World) (hr : Hid (Reads w w.heap.size 5 A n (chs l))) (hn : n * 40 ≤ 140737488351232) :
    Calls Try.prog 20 #[.slice A n c] w (InvEnd l w) := by
  obtain ⟨i0, hi0, hz0, hz1, hz2⟩ := info_parts infoChg
  have hlen := Lib.hid (chs_n hr.out)
  go_enter Try.func20, Try.ntmps20
  go_wp2_with fail
  refine (check_any l A n c w hr (by omega)).mono ?_
  rintro e w1 ⟨h1, h2, hb⟩
  have hb1 := Lib.hid hb
  clear hb
  by_cases hp : Plan l
  · obtain rfl := h1 hp
    have hP := Lib.hid hp
    clear h1 h2 hp
    go_wp2_with fail
    go_loopw [5, 15] (fun v i wr => ∃ k : Nat, k ≤ n ∧ i = .int .i64 k ∧ Hid (wr.ownsRow w.heap.size 37 5 v k (chs (inv (l.take k)))) ∧ Hid (Below w.heap.size w wr)) (fun _ i _ => n - (intOf i).toNat)
    case atStart => exact ⟨0, by omega, rfl, World.ownsRow_nil _ _ _ _, hb1.out⟩
    case round =>
      obtain ⟨k, hk, rfl, hown, hbel⟩ := hrel
      have hsz := Lib.hid hbel.out.size
      by_cases hlt : k < n
      · obtain ⟨b, o, rfl, hbB⟩ := reads_head hr.out (by omega) (by decide)
        obtain ⟨c, hx, c0, c1, c2, c3, c4⟩ := chs_at (hr.out.below hbel.out) hlt
        have hsn := Lib.hid (inv_take hx)
        obtain ⟨key, was, old, is, new⟩ := c
        dsimp only at c0 c1 c2 c3 c4
        have i0' : (0 : Int) ≤ (k : Int) := by omega
        have i1 : (k : Int) < (n : Int) := by omega
        have hbw : b < wr.heap.size := by have := hsz.out; omega
        clear hx
        go_wp2_with (at_builtin; refine wpList_append_own _ rfl (.tmp 19) (.tmp 31) 27 rfl w.heap.size 37 i0 _ 5 40 Try.underlying27 hi0 hz0 hz1 hz2 rfl (by decide) _ k (chs (inv (l.take k))) rfl ((hown.out.alloc _).alloc _) ⟨wr.heap.size + 1, 0, none⟩ 1 1 (chC (invC ⟨key, was, old, is, new⟩)) rfl rfl (cells_new _ _ _ _ (by simp)) (by rw [← chs_one1]; exact chs_one _) (by unfold maxLen; omega) (by omega) (by have := hsz.out; simp; omega) ?_; intro v' w1 hown' hgrow _)
        have hbel' : Hid (Below w.heap.size w w1) := ((hbel.out.alloc hsz.out _).alloc (by have := hsz.out; simp; omega) _).grown hgrow (by have := hsz.out; simp; omega) (fun q hq => (hown.out.lt q hq).1)
        have hown2 : Hid (w1.ownsRow w.heap.size 37 5 v' (k + 1) (chs (inv (l.take (k + 1))))) := by
          unfold Hid
          rw [hsn.out, chs_append, chs_one1]
          exact hown'
        clear hown' hgrow
        go_wp2
        go_roundw
        case rel => exact ⟨k + 1, by omega, by go_num, hown2, hbel'⟩
        case measure => simp [intOf]; omega
      · obtain rfl : k = n := by omega
        have htk : l.take k = l := List.take_of_length_le (by have := hlen.out; omega)
        obtain ⟨A', c', rfl, _⟩ := own_form hown.out
        have ho := hown.out
        rw [htk] at ho
        have hO := Lib.hid ho
        clear ho htk
        go_wp2
        go_ret2
        refine ⟨fun _ => ⟨A', c', ?_, ?_⟩, fun h => absurd hP.out h, hbel.out⟩
        · rw [hlen.out]; rfl
        · rw [hlen.out]; exact hO.out
  · obtain rfl := h2 hp
    have hP := Lib.hid hp
    clear h1 h2 hp
    go_wp2
    go_ret2
    exact ⟨fun h => absurd h hP.out, fun _ => rfl, hb1.out⟩

set_option maxRecDepth 100000 in
set_option maxHeartbeats 1000000 in
theorem refinvert_any (l : List Chg) (A : Option Addr) (n c : Nat) (w : World) (hr : Hid (Reads w w.heap.size 5 A n (chs l))) (hn : n * 40 ≤ 140737488351232) :
    Calls Try.prog 25 #[.slice A n c] w (InvEnd l w) := by
  obtain ⟨i0, hi0, hz0, hz1, hz2⟩ := info_parts infoChg
  have hlen := Lib.hid (chs_n hr.out)
  go_enter Try.func25, Try.ntmps25
  go_wp2_with fail
  refine (refcheck_any l A n c w hr (by omega)).mono ?_
  rintro e w1 ⟨h1, h2, hb⟩
  have hb1 := Lib.hid hb
  clear hb
  by_cases hp : Plan l
  · obtain rfl := h1 hp
    have hP := Lib.hid hp
    clear h1 h2 hp
    go_wp2_with fail
    go_loopw [5, 6] (fun v i wr => ∃ k : Nat, k ≤ n ∧ i = .int .i64 k ∧ Hid (wr.ownsRow w.heap.size 37 5 v k (chs (inv (l.take k)))) ∧ Hid (Below w.heap.size w wr)) (fun _ i _ => n - (intOf i).toNat)
    case atStart => exact ⟨0, by omega, rfl, World.ownsRow_nil _ _ _ _, hb1.out⟩
    case round =>
      obtain ⟨k, hk, rfl, hown, hbel⟩ := hrel
      have hsz := Lib.hid hbel.out.size
      by_cases hlt : k < n
      · obtain ⟨b, o, rfl, hbB⟩ := reads_head hr.out (by omega) (by decide)
        obtain ⟨c, hx, c0, c1, c2, c3, c4⟩ := chs_at (hr.out.below hbel.out) hlt
        have hsn := Lib.hid (inv_take hx)
        obtain ⟨key, was, old, is, new⟩ := c
        dsimp only at c0 c1 c2 c3 c4
        have i0' : (0 : Int) ≤ (k : Int) := by omega
        have i1 : (k : Int) < (n : Int) := by omega
        have hbw : b < wr.heap.size := by have := hsz.out; omega
        clear hx
        go_wp2_with fail
        have hne : Hid (u5.ownBlock ≠ some b) := fun h => by have := (hown.out.lt b h).1; omega
        go_region_held3 (fun w' => w'.cell? ⟨b, o + k * 5, none⟩ = some (.int .u64 key) ∧ w'.cell? ⟨b, o + k * 5 + 1, none⟩ = some (.bool was) ∧ w'.cell? ⟨b, o + k * 5 + 2, none⟩ = some (.int .u64 old) ∧
            w'.cell? ⟨b, o + k * 5 + 3, none⟩ = some (.bool is) ∧ w'.cell? ⟨b, o + k * 5 + 4, none⟩ = some (.int .u64 new))
          (first
            | go_keep
            | (go_split_ands
               refine ⟨?_, ?_, ?_, ?_, ?_⟩
               · (rw [hgrow.cell_far _ (by simp; omega) (Ne.symm hne.out)]; assumption)
               · (rw [hgrow.cell_far _ (by simp; omega) (Ne.symm hne.out)]; assumption)
               · (rw [hgrow.cell_far _ (by simp; omega) (Ne.symm hne.out)]; assumption)
               · (rw [hgrow.cell_far _ (by simp; omega) (Ne.symm hne.out)]; assumption)
               · (rw [hgrow.cell_far _ (by simp; omega) (Ne.symm hne.out)]; assumption)))
          ((refine step_append_any _ (by rfl) _ _ _ (by rfl) w.heap.size 37 i0 _ 5 40 Try.underlying27 hi0 hz0 hz1 hz2 rfl (by omega) u5 k (chs (inv (l.take k))) (by rfl) ((hown.out.alloc _).drew)
              (wr.heap.size + 1) (some ⟨wr.heap.size, 0, none⟩) 1 1 (chC (invC ⟨key, was, old, is, new⟩)) (by rfl) ((reads_at wr 37 (chC (invC ⟨key, was, old, is, new⟩)) 1 _ rfl rfl).drew.more (by simp)) (by rw [← chs_one1]; exact chs_one _)
              (by unfold maxLen; omega) (by omega) (by have := hsz.out; simp; omega) ?_; intro v1 w1 hown1 hgrow hat))
        have hbel' : Hid (Below w.heap.size w w1) := ((hbel.out.alloc hsz.out _).drew).grown hgrow (by have := hsz.out; simp; omega) (fun q hq => (hown.out.lt q hq).1)
        have hown2 : Hid (w1.ownsRow w.heap.size 37 5 v1 (k + 1) (chs (inv (l.take (k + 1))))) := by
          unfold Hid
          rw [hsn.out, chs_append, chs_one1]
          exact hown1
        clear hown1 hgrow hat
        go_wp2
        go_roundw
        case rel => exact ⟨k + 1, by omega, by go_num, hown2, hbel'⟩
        case measure => simp [intOf]; omega
      · obtain rfl : k = n := by omega
        have htk : l.take k = l := List.take_of_length_le (by have := hlen.out; omega)
        obtain ⟨A', c', rfl, _⟩ := own_form hown.out
        have ho := hown.out
        rw [htk] at ho
        have hO := Lib.hid ho
        clear ho htk
        go_wp2
        go_ret2
        refine ⟨fun _ => ⟨A', c', ?_, ?_⟩, fun h => absurd hP.out h, hbel.out⟩
        · rw [hlen.out]; rfl
        · rw [hlen.out]; exact hO.out
  · obtain rfl := h2 hp
    have hP := Lib.hid hp
    clear h1 h2 hp
    go_wp2
    go_ret2
    exact ⟨fun h => absurd h hP.out, fun _ => rfl, hb1.out⟩
end Go.Proofs.Ytlaocajjenfgpaa
