/- The program's map, walked: Delete; DeleteRange and Move that refuse. -/
import Derived.Test.YtfghkmhabpagkaaOEq
namespace Go.Proofs.Ytfghkmhabpagkaa
open Go Go.RowKit
set_option linter.unusedVariables false

theorem outR_no_key {l : List Pr} {key : Int} (h : look Pr.key l key = none) : outR key key l = l := by
  unfold outR
  rw [List.filter_eq_self]
  intro p hp
  have := look_none.1 h p hp
  simp [inB]
  omega
set_option maxHeartbeats 4000000 in
theorem delM {B : World} {g : Nat} {v : Value} {l : List Pr} (key : Int) (w : World) (h : Hid (MapAt B w g v l)) (hl : l.length ≤ 800000) :
    Calls Try.prog 31 #[.pointer (some ⟨g, 0, none⟩), .int .u64 key] w fun e w' =>
      e = .returned (.tuple #[.int .u64 (valO (look Pr.key l key)), .bool (look Pr.key l key).isSome, .int .i64 0]) ∧ ∃ v', MapAt B w' g v' (outR key key l) ∧ Stays w w' g v v' := by
  have hc := findO_any l g key w (Lib.hid h.out.o.q) (Lib.hid h.out.o.srt)
  rcases hlk : look Pr.key l key with _ | p
  · have ho := outR_no_key hlk
    rw [ho]
    have hc2 : Calls Try.prog 38 #[.pointer (some ⟨g, 0, none⟩), .int .u64 key] w (fun e w' => ∃ r : Nat, e = .returned (.tuple #[.int .i64 r, .bool false]) ∧ Below w.heap.size w w') :=
      hc.mono fun e w' ⟨r, h1, h2⟩ => ⟨r, by rw [h1, hlk]; rfl, h2.2⟩
    clear hc ho
    dsimp only [valO, Option.isSome]
    go_enter Try.func31, Try.ntmps31
    go_wp2_with fail
    refine hc2.mono ?_
    rintro e w1 ⟨r, rfl, hb⟩
    have h1 := mapAt_on h hb
    have hs1 : Hid (Stays w w1 g v v) := Stays.of_below hb
    clear hc2 hb hlk
    go_wp2_with fail
    go_ret3
    exact ⟨rfl, v, h1.out, hs1.out⟩
  · have hc2 : Calls Try.prog 38 #[.pointer (some ⟨g, 0, none⟩), .int .u64 key] w (fun e w' => ∃ r : Nat, e = .returned (.tuple #[.int .i64 r, .bool true]) ∧ At l key r ∧ Below w.heap.size w w') :=
      hc.mono fun e w' ⟨r, h1, h2⟩ => ⟨r, by rw [h1, hlk]; rfl, h2⟩
    clear hc
    dsimp only [valO, Option.isSome]
    have hvlt : Hid (∀ q, v.ownBlock = some q → q < w.heap.size) := Lib.hid (fun q hq => (h.out.o.own.lt q hq).2)
    go_enter Try.func31, Try.ntmps31
    go_wp2_with fail
    refine hc2.mono ?_
    rintro e w1 ⟨r, rfl, hat, hb⟩
    have ho1 := h.out.o.below hb
    have hE := ends_of ho1.srt (Int.le_refl key) hat hat
    rw [hlk] at hE
    have hE' : Ends l key key r (r + 1) := hE
    obtain ⟨A, c, rfl, hnc, hcm⟩ := own_form ho1.own
    have hrn : r < l.length := by have := hE'.2.1; omega
    have hown := ho1.own
    obtain ⟨b, cur, rfl, hbg, hB, _, _, hsz, htk⟩ := own_open hown (by omega)
    obtain ⟨x, hx, p0, p1⟩ := prs_at (Reads.of_own hown) hrn
    have hxp : x = p := by
      have := at_look ho1.srt hat hx
      rw [hlk] at this
      split at this
      · exact (Option.some.inj this).symm
      · cases this
    subst hxp
    obtain ⟨xk, xv⟩ := x
    dsimp only at p0 p1 ⊢
    have hg : w1.cell? ⟨g, 0, none⟩ = some (.slice (some ⟨b, 0, none⟩) l.length c) := by simpa using ho1.blk.cell 0
    have hdel := sldel_any l (some ⟨b, 0, none⟩) l.length c B.heap.size r (r + 1) w1 hown hE'.1 hE'.2.1
    rw [hE'.2.2.2] at hdel
    have hbel := h.out.bel
    have hH := Lib.hid (And.intro ho1 (And.intro hb (And.intro (srt_out (lo := key) (hi := key) ho1.srt) hbel)))
    have j0 : (0 : Int) ≤ (r : Int) := by omega
    have j1 : (r : Int) < (l.length : Int) := by omega
    have j2 : (r : Int) + 1 ≤ (l.length : Int) := by omega
    obtain ⟨n, hn⟩ : ∃ n, n = l.length := ⟨_, rfl⟩
    have hN := Lib.hid hn
    have hr9 : r ≤ 900000 := by have := ho1.len; omega
    rw [← hn] at hg j1 j2 hdel
    simp only [Nat.zero_add] at p0 p1
    have hcast : ((r + 1 : Nat) : Int) = (r : Int) + 1 := by omega
    rw [hcast] at hdel
    clear hc2 hE hE' ho1 hown hB hsz htk hx hat hb hlk hcm hnc hrn hn hbel p0 hbg hcast h
    go_wp2_with fail
    refine hdel.mono ?_
    rintro e w3 ⟨A', c', rfl, hown3, hg3, hat3⟩
    rw [hN.out] at hg3 hat3
    obtain ⟨ho1, hb1, hso, hbel⟩ := hH.out
    have hR := rewrite_map (w := w) (w1 := w1) ho1 hb1 hb1.size hown3 hg3 hat3 hso (by have : (outR key key l).length ≤ l.length := List.length_filter_le _ _; have := ho1.len; omega) hvlt.out
    have hc3 : w3.cell? ⟨g, 0, none⟩ = some (.slice (some ⟨b, 0, none⟩) l.length c) := by simpa using hR.2.cell 0
    have hf3 := hR.2.frozen 0
    have hR1 := Lib.hid hR.1
    have hM : Hid (∃ v', MapAt B (w3.setCell ⟨g, 0, none⟩ (.slice A' (outR key key l).length c')) g v' (outR key key l) ∧ Stays w (w3.setCell ⟨g, 0, none⟩ (.slice A' (outR key key l).length c')) g (.slice (some ⟨b, 0, none⟩) l.length c) v') := by
      obtain ⟨v', e1, e2, e3⟩ := hR1.out
      exact ⟨v', ⟨e1, But.below hbel e2 hbel.size ho1.lo ho1.row_lo⟩, e2, e3⟩
    clear hown3 hg3 hat3 ho1 hb1 hso hH hdel hg hbel hR hR1
    go_wp2_with fail
    go_ret3
    exact ⟨rfl, hM.out⟩
theorem delR_bad (g : Nat) (lo hi : Int) (w : World) (h : hi < lo) :
    Calls Try.prog 27 #[.pointer (some ⟨g, 0, none⟩), .agg #[.int .u64 lo, .int .u64 hi]] w fun e w' => e = .returned (.tuple #[.int .i64 0, .int .i64 13]) ∧ Below w.heap.size w w' := by
  have hb0 : Hid (Below w.heap.size w (w.alloc (.cells #[.int .u64 lo, .int .u64 hi] 25))) := (Below.refl _ _).alloc (Nat.le_refl _) _
  have hc := ends_no g lo hi (w.alloc (.cells #[.int .u64 lo, .int .u64 hi] 25)) h
  go_enter Try.func27, Try.ntmps27
  go_wp2_with fail
  refine hc.mono ?_
  rintro e w1 ⟨rfl, hb⟩
  have hb1 := below_on hb0 hb
  clear hc hb hb0
  go_wp2_with fail
  go_ret2
  exact ⟨rfl, hb1.out⟩
theorem move_bad (g : Nat) (lo hi by_ : Int) (w : World) (h : hi < lo) :
    Calls Try.prog 14 #[.pointer (some ⟨g, 0, none⟩), .agg #[.int .u64 lo, .int .u64 hi], .int .u64 by_] w fun e w' => e = .returned (.tuple #[.int .i64 0, .int .i64 13]) ∧ Below w.heap.size w w' := by
  have hb0 : Hid (Below w.heap.size w (w.alloc (.cells #[.int .u64 lo, .int .u64 hi] 25))) := (Below.refl _ _).alloc (Nat.le_refl _) _
  have hc := ends_no g lo hi (w.alloc (.cells #[.int .u64 lo, .int .u64 hi] 25)) h
  go_enter Try.func14, Try.ntmps14
  go_wp2_with fail
  refine hc.mono ?_
  rintro e w1 ⟨rfl, hb⟩
  have hb1 := below_on hb0 hb
  clear hc hb hb0
  go_wp2_with fail
  go_ret2
  exact ⟨rfl, hb1.out⟩
theorem move_zero {B : World} {g : Nat} {v : Value} {l : List Pr} (lo hi : Int) (w : World) (h : Hid (MapAt B w g v l)) (hlh : lo ≤ hi) :
    Calls Try.prog 14 #[.pointer (some ⟨g, 0, none⟩), .agg #[.int .u64 lo, .int .u64 hi], .int .u64 0] w fun e w' => e = .returned (.tuple #[.int .i64 0, .int .i64 13]) ∧ Below w.heap.size w w' := by
  have hb0 : Hid (Below w.heap.size w (w.alloc (.cells #[.int .u64 lo, .int .u64 hi] 25))) := (Below.refl _ _).alloc (Nat.le_refl _) _
  have hc := ends_ok l g lo hi (w.alloc (.cells #[.int .u64 lo, .int .u64 hi] 25)) (Lib.hid (h.out.o.below hb0.out).q) (Lib.hid h.out.o.srt) hlh
  go_enter Try.func14, Try.ntmps14
  go_wp2_with fail
  refine hc.mono ?_
  rintro e w1 ⟨a, T, rfl, hE, hb⟩
  have hb1 := below_on hb0 hb
  clear hc hb hb0 hE
  go_wp2_with fail
  go_ret2
  exact ⟨rfl, hb1.out⟩
theorem move_over {B : World} {g : Nat} {v : Value} {l : List Pr} (lo hi by_ : Int) (w : World) (h : Hid (MapAt B w g v l)) (hlh : lo ≤ hi) (h0 : by_ ≠ 0) (h2 : 18446744073709551615 - hi < by_) (whi : (Lit.int .u64 hi).wf = true) :
    Calls Try.prog 14 #[.pointer (some ⟨g, 0, none⟩), .agg #[.int .u64 lo, .int .u64 hi], .int .u64 by_] w fun e w' => e = .returned (.tuple #[.int .i64 0, .int .i64 12]) ∧ Below w.heap.size w w' := by
  have hb0 : Hid (Below w.heap.size w (w.alloc (.cells #[.int .u64 lo, .int .u64 hi] 25))) := (Below.refl _ _).alloc (Nat.le_refl _) _
  have hc := ends_ok l g lo hi (w.alloc (.cells #[.int .u64 lo, .int .u64 hi] 25)) (Lib.hid (h.out.o.below hb0.out).q) (Lib.hid h.out.o.srt) hlh
  have hB0 : Blk (w.alloc (.cells #[.int .u64 lo, .int .u64 hi] 25)) w.heap.size 25 #[.int .u64 lo, .int .u64 hi] := Blk.new _ _ _
  have hd2 : (by_ == 0) = false := by simpa using h0
  have hhi := bounds_u64 whi
  obtain ⟨M, hM⟩ : ∃ M : Int, IntKind.u64.wrap (18446744073709551615 - hi) = M := ⟨_, rfl⟩
  have hd3 : decide (M < by_) = true := by
    have : M = 18446744073709551615 - hi := by rw [← hM, IntWalk.u64_in _ (by omega)]
    simp; omega
  clear h0 h2 hhi
  go_enter Try.func14, Try.ntmps14
  go_wp2_with fail
  refine hc.mono ?_
  rintro e w1 ⟨a, T, rfl, hE, hb⟩
  have hB1 := hB0.below hb (by simp)
  have hs1 := hB1.cell 1
  simp at hs1
  have hb1 := below_on hb0 hb
  clear hc hb hb0 hE hB0 hB1
  go_wp2_with fail
  go_ret2
  exact ⟨rfl, hb1.out⟩
end Go.Proofs.Ytfghkmhabpagkaa
