/- plan.Delete and the fixed plan, walked. -/
import Derived.Test.YtlaocajjenfgpaaDel
namespace Go.Proofs.Ytlaocajjenfgpaa
open Go Go.RowKit
set_option linter.unusedVariables false

def delC (p : Pr) : Chg := ⟨p.key, true, p.val, false, 0⟩
def dels (l : List Pr) : List Chg := l.map delC
theorem dels_take {l : List Pr} {k : Nat} {p : Pr} (h : l[k]? = some p) : dels (l.take (k + 1)) = dels (l.take k) ++ [delC p] := by
  unfold dels
  rw [List.take_add_one, h, List.map_append]
  rfl
theorem chC_one' (c : Chg) : ∀ u ∈ chC c, u.oneCell' = true := by rw [← chs_one1]; exact chs_one _

def DelEnd (l : List Pr) (lo hi : Int) (w : World) (e : Ending) (w' : World) : Prop :=
  (¬ Asc l → e = .returned (.tuple #[.slice none 0 0, .int .i64 2])) ∧ (Asc l → hi < lo → e = .returned (.tuple #[.slice none 0 0, .int .i64 13])) ∧
  (Asc l → lo ≤ hi → ∃ A c, e = .returned (.tuple #[.slice A (inR lo hi l).length c, .int .i64 0]) ∧ w'.ownsRow w.heap.size 37 5 (.slice A (inR lo hi l).length c) (inR lo hi l).length (chs (dels (inR lo hi l)))) ∧ Below w.heap.size w w'

set_option maxHeartbeats 1000000 in
theorem delete_any (l : List Pr) (A : Option Addr) (n c : Nat) (lo hi : Int) (w : World) (hr : Hid (Reads w w.heap.size 2 A n (prs l))) (hn : n ≤ 1000000) :
    Calls Try.prog 14 #[.slice A n c, .agg #[.int .u64 lo, .int .u64 hi]] w (DelEnd l lo hi w) := by
  obtain ⟨i0, hi0, hz0, hz1, hz2⟩ := info_parts infoChg
  have hlen := Lib.hid (prs_n hr.out)
  go_enter Try.func14, Try.ntmps14
  go_wp2_with fail
  refine (checked_any l A n c lo hi _ ((hr.out.alloc (Nat.le_refl _) _).more (by simp)) hn).mono ?_
  rintro e w1 ⟨h1, h2, h3, hb⟩
  have hb1 : Hid (Below w.heap.size w w1) := ((Below.refl _ _).alloc (Nat.le_refl _) _).trans (hb.mono (by simp))
  clear hb
  by_cases hp : Asc l
  · by_cases hlh : lo ≤ hi
    · obtain ⟨A1, c1, rfl, ho1⟩ := h3 hp hlh
      have hP := Lib.hid hp
      have hle := inR_le lo hi l
      rw [hlen.out] at hle
      have hm1 := Lib.hid (show (inR lo hi l).length ≤ n from hle)
      clear hle
      have hr1 := Lib.hid (Reads.of_own ho1)
      have hs1 := Lib.hid hb1.out.size
      have hds := Lib.hid (fun k p h => dels_take (l := inR lo hi l) (k := k) (p := p) h)
      have hdl := Lib.hid (show (inR lo hi l).take (inR lo hi l).length = inR lo hi l from List.take_length)
      clear h1 h2 h3 hp ho1
      obtain ⟨ps, hps⟩ : ∃ ps, inR lo hi l = ps := ⟨_, rfl⟩
      obtain ⟨m, hm⟩ : ∃ m, ps.length = m := ⟨_, rfl⟩
      rw [hps, hm] at hm1 hr1 hdl
      rw [hps] at hds
      rw [hps, hm]
      have hm1 := hm1.out
      have hps := Lib.hid hps
      have hm := Lib.hid hm
      go_wp2_with fail
      go_loopw [8, 22] (fun v i wr => ∃ k : Nat, k ≤ m ∧ i = .int .i64 k ∧ Hid (wr.ownsRow w1.heap.size 37 5 v k (chs (dels (ps.take k)))) ∧ Hid (Below w1.heap.size w1 wr)) (fun _ i _ => m - (intOf i).toNat)
      case atStart => exact ⟨0, by omega, rfl, World.ownsRow_nil _ _ _ _, Below.refl _ _⟩
      case round =>
        obtain ⟨k, hk, rfl, hown, hbel⟩ := hrel
        have hsz := Lib.hid hbel.out.size
        by_cases hlt : k < m
        · obtain ⟨b, o, rfl, hbB⟩ := reads_head hr1.out (by omega) (by decide)
          obtain ⟨p, hx, p0, p1⟩ := prs_at (hr1.out.below hbel.out) hlt
          have hY := Lib.hid (hds.out k p hx)
          obtain ⟨key, val⟩ := p
          dsimp only at p0 p1
          have j0 : (0 : Int) ≤ (k : Int) := by omega
          have j1 : (k : Int) < (m : Int) := by omega
          have hbw : b < wr.heap.size := by have := hsz.out; omega
          clear hx
          go_wp2_with (at_builtin; refine wpList_append_any _ rfl (.tmp 26) (.tmp 32) 27 rfl w1.heap.size 37 i0 _ 5 40 Try.underlying27 hi0 hz0 hz1 hz2 rfl (by decide) u8 k _ rfl ((hown.out.alloc _).alloc _) (wr.heap.size + 2) (some ⟨wr.heap.size + 1, 0, none⟩) 1 1 (chC (delC ⟨key, val⟩)) rfl ((reads_at _ _ (chC (delC ⟨key, val⟩)) 1 _ (by simp) rfl).more (by simp)) (chC_one' _) (by unfold maxLen; omega) (by omega) (by have := hsz.out; simp; omega) ?_; intro v1 w4 hown1 hg1 hat1)
          have hbel4 : Hid (Below w1.heap.size w1 w4) := ((hbel.out.alloc hsz.out _).alloc (by have := hsz.out; simp; omega) _).grown hg1 (by have := hsz.out; simp; omega) (fun q hq => (hown.out.lt q hq).1)
          have ho4 : Hid (w4.ownsRow w1.heap.size 37 5 v1 (k + 1) (chs (dels (ps.take (k + 1))))) := by
            unfold Hid
            rw [hY.out, chs_append, chs_one1]
            exact hown1
          clear hown1 hg1 hat1
          go_wp2
          go_roundw
          case rel => exact ⟨k + 1, by omega, by go_num, ho4, hbel4⟩
          case measure => simp [intOf]; omega
        · obtain rfl : k = m := by omega
          have ho := hown.out
          rw [hdl.out] at ho
          have hO := Lib.hid (own_base ho hs1.out)
          obtain ⟨A', c', rfl, _⟩ := own_form ho
          clear ho
          go_wp2
          go_ret2
          exact ⟨fun h => absurd hP.out h, fun _ h => by omega, fun _ _ => ⟨A', c', by rw [hps.out, hm.out]; rfl, by rw [hps.out, hm.out]; exact hO.out⟩, hb1.out.trans (hbel.out.mono hs1.out)⟩
    · obtain rfl := h2 hp (by omega)
      have hP := Lib.hid hp
      clear h1 h2 h3 hp
      go_wp2
      go_ret2
      exact ⟨fun h => absurd hP.out h, fun _ _ => rfl, fun _ h => by omega, hb1.out⟩
  · obtain rfl := h1 hp
    have hP := Lib.hid hp
    clear h1 h2 h3 hp
    go_wp2
    go_ret2
    exact ⟨fun _ => rfl, fun h => absurd h hP.out, fun h => absurd h hP.out, hb1.out⟩

def KnownEnd (w : World) (e : Ending) (w' : World) : Prop := e = .returned (.bool true) ∧ Below w.heap.size w w'
theorem known_plan : Asc [⟨4, 2⟩, ⟨6, 3⟩] ∧ inR 5 9 [⟨4, 2⟩, ⟨6, 3⟩] = [⟨6, 3⟩] := by
  constructor
  · refine srt_of_next fun i a b ha hb => ?_
    rcases i with _ | i
    · obtain rfl := Option.some.inj ha
      obtain rfl := Option.some.inj hb
      decide
    · simp at hb
  · rfl
theorem known_any (w : World) : Calls Try.prog 11 #[] w (KnownEnd w) := by
  go_enter Try.func11, Try.ntmps11
  go_wp2_with fail
  refine (delete_any [⟨4, 2⟩, ⟨6, 3⟩] (some ⟨w.heap.size, 0, none⟩) 2 2 5 9 _ (reads_at w _ (prs [⟨4, 2⟩, ⟨6, 3⟩]) 2 _ rfl rfl) (by omega)).mono ?_
  rintro e w1 ⟨h1, h2, h3, hb⟩
  obtain ⟨A, c, rfl, ho⟩ := h3 known_plan.1 (by decide)
  have hb1 : Hid (Below w.heap.size w w1) := ((Below.refl _ _).alloc (Nat.le_refl _) _).trans (hb.mono (by simp))
  rw [known_plan.2] at ho ⊢
  have hr := Reads.of_own ho
  obtain ⟨b, o, rfl, hbB⟩ := reads_head hr (by decide) (by decide)
  obtain ⟨x, hx, c0, c1, c2, c3, c4⟩ := chs_at hr (k := 0) (by decide)
  obtain rfl := Option.some.inj hx
  simp only [Nat.zero_mul, Nat.add_zero, delC] at c0 c1 c2 c3 c4
  clear h1 h2 h3 hb ho hr hx
  go_wp2
  go_ret
  exact ⟨by simp, hb1.out⟩
end Go.Proofs.Ytlaocajjenfgpaa
