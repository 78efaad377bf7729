/- picks.made, Round and Mixed walked (printed by gen_made.py). -/
import Derived.Test.YtjpmhofpfmogiaaRGap
namespace Go.Proofs.Ytjpmhofpfmogiaa
open Go Go.RowKit
set_option linter.unusedVariables false

/-- The error of a number of threads and a number of picks to make. -/
def siz (t n : Int) : Int := if t < 1 ∨ 64 < t ∨ n < 0 then 2 else if 65536 < n then 5 else 0
theorem siz_cases (t n : Int) : ((t < 1 ∨ 64 < t) ∧ siz t n = 2) ∨ (1 ≤ t ∧ t ≤ 64 ∧ n < 0 ∧ siz t n = 2) ∨ (1 ≤ t ∧ t ≤ 64 ∧ 65536 < n ∧ siz t n = 5) ∨ (1 ≤ t ∧ t ≤ 64 ∧ 0 ≤ n ∧ n ≤ 65536 ∧ siz t n = 0) := by
  unfold siz
  by_cases h1 : t < 1 ∨ 64 < t
  · rw [if_pos (by omega)]; exact .inl ⟨h1, rfl⟩
  · by_cases h2 : n < 0
    · rw [if_pos (by omega)]; exact .inr (.inl ⟨by omega, by omega, h2, rfl⟩)
    · rw [if_neg (by omega)]
      by_cases h3 : 65536 < n
      · rw [if_pos h3]; exact .inr (.inr (.inl ⟨by omega, by omega, h3, rfl⟩))
      · rw [if_neg h3]; exact .inr (.inr (.inr ⟨by omega, by omega, by omega, by omega, rfl⟩))

theorem made_err (t n : Int) (fv : Value) (w : World) (er : Int) (hc : siz t n = er) (h0 : er ≠ 0) :
    Calls Try.prog 38 #[.int .i64 t, .int .i64 n, fv] w fun e w' => e = .returned (.tuple #[.slice none 0 0, .int .i64 er]) ∧ w = w' := by
  rcases siz_cases t n with ⟨h1, h2⟩ | ⟨h1, h2, h3, h4⟩ | ⟨h1, h2, h3, h4⟩ | ⟨h1, h2, h3, h4, h5⟩
  · obtain rfl : er = 2 := by omega
    have hk : chk t 0 0 = 2 := by unfold chk; rw [if_pos (by omega)]
    go_enter Try.func38, Try.ntmps38
    go_wp2_with fail
    refine (check_any t 0 0 _).mono ?_
    rintro e w' ⟨rfl, rfl⟩
    rw [hk]
    go_wp2_with fail
    go_ret2
    exact ⟨rfl, rfl⟩
  · obtain rfl : er = 2 := by omega
    have hk : chk t 0 0 = 0 := by unfold chk; rw [if_neg (by omega), if_neg (by omega)]
    go_enter Try.func38, Try.ntmps38
    go_wp2_with fail
    refine (check_any t 0 0 _).mono ?_
    rintro e w' ⟨rfl, rfl⟩
    rw [hk]
    go_wp2_with fail
    go_ret2
    exact ⟨rfl, rfl⟩
  · obtain rfl : er = 5 := by omega
    have hk : chk t 0 0 = 0 := by unfold chk; rw [if_neg (by omega), if_neg (by omega)]
    go_enter Try.func38, Try.ntmps38
    go_wp2_with fail
    refine (check_any t 0 0 _).mono ?_
    rintro e w' ⟨rfl, rfl⟩
    rw [hk]
    go_wp2_with fail
    go_ret2
    exact ⟨rfl, rfl⟩
  · omega

theorem range_snoc (f : Nat → Int) (k : Nat) : (List.range (k + 1)).map f = (List.range k).map f ++ [f k] := by
  rw [List.range_succ, List.map_append]
  rfl
/-- What made returns. -/
def MadeEnd (base : Nat) (f : Nat → Int) (n : Nat) (w : World) (e : Ending) (w' : World) : Prop :=
  ∃ A c, e = .returned (.tuple #[.slice A n c, .int .i64 0]) ∧ w'.ownsRow w.heap.size 3 1 (.slice A n c) n (ints ((List.range n).map f)) ∧ Below base w w'

set_option maxHeartbeats 1000000 in
theorem made1_ok (T n : Nat) (h1 : 1 ≤ T) (h2 : T ≤ 64) (hn : n ≤ 65536) (b1 bx n₀ : Nat) (f : Nat → Int) (J : Nat → World → Prop) (w : World) (hn₀ : n₀ ≤ w.heap.size) (hbx : bx < w.heap.size)
    (hJb : Hid (∀ k W W', J k W → Below w.heap.size W W' → J k W'))
    (HC : Hid (∀ k W, k < n → J k W → Calls Try.prog 39 #[.int .i64 k, .pointer (some ⟨b1, 0, none⟩)] W fun e W' => e = .returned (.int .i64 (f k)) ∧ J (k + 1) W' ∧ W.grownBy W' (some bx) ∧ Below n₀ W W'))
    (h0 : Hid (J 0 w)) :
    Calls Try.prog 38 #[.int .i64 (T : Int), .int .i64 (n : Int), .func (.func 39) #[] #[.pointer (some ⟨b1, 0, none⟩)]] w (MadeEnd n₀ f n w) := by
  obtain ⟨i0, hi0, hz0, hz1, hz2⟩ := info_parts infoInt
  have hk : chk T 0 0 = 0 := by unfold chk; rw [if_neg (by omega), if_neg (by omega)]
  have hmk : ∀ W : World, (Instr.makeSlice 22 (.int .i64 0) (.int .i64 (n : Int))).run Try.prog W = .ok (.slice (some ⟨W.heap.size, 0, none⟩) 0 n) (W.alloc (.cells (madeCells (Value.int .i64 0).cells (n * i0.size)) 3)) := by
    intro W
    have h := run_make (P := Try.prog) W 22 3 i0 (.int .i64 0) Try.underlying22 hi0 hz0 .i64 .i64 0 n (by omega) (by omega) (by rw [hz2]; omega) (by omega)
    rw [h]
    simp only [Int.toNat_natCast]
    rfl
  obtain ⟨cs, hcs, hcz⟩ : ∃ cs : Array Value, madeCells (Value.int .i64 0).cells (n * i0.size) = cs ∧ cs.size = n := ⟨_, rfl, by rw [hz1, Nat.mul_one, ← Array.length_toList, show (Value.int IntKind.i64 0).cells = #[.int .i64 0] from rfl, toList_madeCells_one, List.length_replicate]⟩
  rw [hcs] at hmk
  have HM := Lib.hid hmk
  clear hmk hcs
  go_enter Try.func38, Try.ntmps38
  go_wp2_with fail
  refine (check_any T 0 0 _).mono ?_
  rintro e w' ⟨rfl, rfl⟩
  rw [hk]
  have hmk := HM.out
  have hn0 : (0 : Int) ≤ (n : Int) := by omega
  have hn1 : (n : Int) ≤ 65536 := by omega
  go_wp2_with fail
  clear hmk
  have hr0 : Hid ((w.alloc (.cells cs 3)).ownsRow w.heap.size 3 1 (.slice (some ⟨w.heap.size, 0, none⟩) 0 n) 0 []) := by
    have hh := Blk.new w 3 cs
    unfold Blk at hh
    exact ⟨rfl, .inr ⟨_, _, _, rfl, Nat.le_refl _, hh, Nat.zero_le _, by unfold maxLen; omega, by rw [hcz, Nat.mul_one], by simp⟩⟩
  go_loopw [9, 23] (fun v i wr => ∃ k : Nat, k ≤ n ∧ i = .int .i64 k ∧ Hid (wr.ownsRow w.heap.size 3 1 v k (ints ((List.range k).map f))) ∧ Hid (J k wr) ∧ Hid (Below n₀ w wr)) (fun _ i _ => n - (intOf i).toNat)
  case atStart => exact ⟨0, by omega, rfl, hr0.out, hJb.out _ _ _ h0.out ((Below.refl _ _).alloc (Nat.le_refl _) _), (Below.refl _ _).alloc hn₀ _⟩
  case round =>
    clear hr0
    obtain ⟨k, hkn, rfl, hown, hJ, hbel⟩ := hrel
    by_cases hlt : k < n
    · have hc := HC.out k wr hlt hJ.out
      have hsz := Lib.hid hbel.out.size
      have hrs := Lib.hid (range_snoc f k)
      go_wp2_with fail
      refine hc.mono ?_
      rintro e w2 ⟨rfl, hJ2, hg2, hb2⟩
      have hown2 : Hid (w2.ownsRow w.heap.size 3 1 u9 k (ints ((List.range k).map f))) := hown.out.kept hg2 (.inr (fun e => by have := (hown.out.lt _ e).1; omega))
      have hJ3 := Lib.hid hJ2
      have hbel2 : Hid (Below n₀ w w2) := hbel.out.trans hb2
      have hsz2 := Lib.hid hbel2.out.size
      clear hJ2 hg2 hb2 hc
      generalize f k = c at *
      go_wp2_with (at_builtin; refine wpList_append_own _ rfl _ _ 22 rfl w.heap.size 3 i0 (.int .i64 0) 1 8 Try.underlying22 hi0 hz0 hz1 hz2 rfl (by decide) u9 k (ints ((List.range k).map f)) rfl (hown2.out.alloc _) ⟨w2.heap.size, 0, none⟩ 1 1 [.int .i64 c] rfl rfl (cell_one_new _ _ _) (by simp [Value.oneCell']) (by unfold maxLen; omega) (by omega) (by have := hsz2.out; simp; omega) ?_; intro v' w3 hown' hgrow _)
      have hbx3 : Hid (Below w.heap.size w2 w3) := ((Below.refl _ _).alloc hsz2.out _).grown hgrow (by have := hsz2.out; simp; omega) (fun q hq => (hown2.out.lt q hq).1)
      have hbel3 : Hid (Below n₀ w w3) := hbel2.out.trans (hbx3.out.mono hn₀)
      have hJ4 : Hid (J (k + 1) w3) := hJb.out _ _ _ hJ3.out hbx3.out
      have hown3 : Hid (w3.ownsRow w.heap.size 3 1 v' (k + 1) (ints ((List.range (k + 1)).map f))) := by
        unfold Hid
        rw [hrs.out, ints_append]
        exact hown'
      clear hown' hgrow
      go_wp2
      go_roundw
      case rel => exact ⟨k + 1, by omega, by go_num, hown3, hJ4, hbel3⟩
      case measure => simp [intOf]; omega
    · obtain rfl : k = n := by omega
      obtain ⟨A', c, rfl, _⟩ := own_form hown.out
      go_wp2
      go_ret2
      exact ⟨A', c, rfl, hown.out, hbel.out⟩

set_option maxHeartbeats 1000000 in
theorem made2_ok (T n : Nat) (h1 : 1 ≤ T) (h2 : T ≤ 64) (hn : n ≤ 65536) (b1 b2 bx n₀ : Nat) (f : Nat → Int) (J : Nat → World → Prop) (w : World) (hn₀ : n₀ ≤ w.heap.size) (hbx : bx < w.heap.size)
    (hJb : Hid (∀ k W W', J k W → Below w.heap.size W W' → J k W'))
    (HC : Hid (∀ k W, k < n → J k W → Calls Try.prog 41 #[.int .i64 k, .pointer (some ⟨b1, 0, none⟩), .pointer (some ⟨b2, 0, none⟩)] W fun e W' => e = .returned (.int .i64 (f k)) ∧ J (k + 1) W' ∧ W.grownBy W' (some bx) ∧ Below n₀ W W'))
    (h0 : Hid (J 0 w)) :
    Calls Try.prog 38 #[.int .i64 (T : Int), .int .i64 (n : Int), .func (.func 41) #[] #[.pointer (some ⟨b1, 0, none⟩), .pointer (some ⟨b2, 0, none⟩)]] w (MadeEnd n₀ f n w) := by
  obtain ⟨i0, hi0, hz0, hz1, hz2⟩ := info_parts infoInt
  have hk : chk T 0 0 = 0 := by unfold chk; rw [if_neg (by omega), if_neg (by omega)]
  have hmk : ∀ W : World, (Instr.makeSlice 22 (.int .i64 0) (.int .i64 (n : Int))).run Try.prog W = .ok (.slice (some ⟨W.heap.size, 0, none⟩) 0 n) (W.alloc (.cells (madeCells (Value.int .i64 0).cells (n * i0.size)) 3)) := by
    intro W
    have h := run_make (P := Try.prog) W 22 3 i0 (.int .i64 0) Try.underlying22 hi0 hz0 .i64 .i64 0 n (by omega) (by omega) (by rw [hz2]; omega) (by omega)
    rw [h]
    simp only [Int.toNat_natCast]
    rfl
  obtain ⟨cs, hcs, hcz⟩ : ∃ cs : Array Value, madeCells (Value.int .i64 0).cells (n * i0.size) = cs ∧ cs.size = n := ⟨_, rfl, by rw [hz1, Nat.mul_one, ← Array.length_toList, show (Value.int IntKind.i64 0).cells = #[.int .i64 0] from rfl, toList_madeCells_one, List.length_replicate]⟩
  rw [hcs] at hmk
  have HM := Lib.hid hmk
  clear hmk hcs
  go_enter Try.func38, Try.ntmps38
  go_wp2_with fail
  refine (check_any T 0 0 _).mono ?_
  rintro e w' ⟨rfl, rfl⟩
  rw [hk]
  have hmk := HM.out
  have hn0 : (0 : Int) ≤ (n : Int) := by omega
  have hn1 : (n : Int) ≤ 65536 := by omega
  go_wp2_with fail
  clear hmk
  have hr0 : Hid ((w.alloc (.cells cs 3)).ownsRow w.heap.size 3 1 (.slice (some ⟨w.heap.size, 0, none⟩) 0 n) 0 []) := by
    have hh := Blk.new w 3 cs
    unfold Blk at hh
    exact ⟨rfl, .inr ⟨_, _, _, rfl, Nat.le_refl _, hh, Nat.zero_le _, by unfold maxLen; omega, by rw [hcz, Nat.mul_one], by simp⟩⟩
  go_loopw [9, 23] (fun v i wr => ∃ k : Nat, k ≤ n ∧ i = .int .i64 k ∧ Hid (wr.ownsRow w.heap.size 3 1 v k (ints ((List.range k).map f))) ∧ Hid (J k wr) ∧ Hid (Below n₀ w wr)) (fun _ i _ => n - (intOf i).toNat)
  case atStart => exact ⟨0, by omega, rfl, hr0.out, hJb.out _ _ _ h0.out ((Below.refl _ _).alloc (Nat.le_refl _) _), (Below.refl _ _).alloc hn₀ _⟩
  case round =>
    clear hr0
    obtain ⟨k, hkn, rfl, hown, hJ, hbel⟩ := hrel
    by_cases hlt : k < n
    · have hc := HC.out k wr hlt hJ.out
      have hsz := Lib.hid hbel.out.size
      have hrs := Lib.hid (range_snoc f k)
      go_wp2_with fail
      refine hc.mono ?_
      rintro e w2 ⟨rfl, hJ2, hg2, hb2⟩
      have hown2 : Hid (w2.ownsRow w.heap.size 3 1 u9 k (ints ((List.range k).map f))) := hown.out.kept hg2 (.inr (fun e => by have := (hown.out.lt _ e).1; omega))
      have hJ3 := Lib.hid hJ2
      have hbel2 : Hid (Below n₀ w w2) := hbel.out.trans hb2
      have hsz2 := Lib.hid hbel2.out.size
      clear hJ2 hg2 hb2 hc
      generalize f k = c at *
      go_wp2_with (at_builtin; refine wpList_append_own _ rfl _ _ 22 rfl w.heap.size 3 i0 (.int .i64 0) 1 8 Try.underlying22 hi0 hz0 hz1 hz2 rfl (by decide) u9 k (ints ((List.range k).map f)) rfl (hown2.out.alloc _) ⟨w2.heap.size, 0, none⟩ 1 1 [.int .i64 c] rfl rfl (cell_one_new _ _ _) (by simp [Value.oneCell']) (by unfold maxLen; omega) (by omega) (by have := hsz2.out; simp; omega) ?_; intro v' w3 hown' hgrow _)
      have hbx3 : Hid (Below w.heap.size w2 w3) := ((Below.refl _ _).alloc hsz2.out _).grown hgrow (by have := hsz2.out; simp; omega) (fun q hq => (hown2.out.lt q hq).1)
      have hbel3 : Hid (Below n₀ w w3) := hbel2.out.trans (hbx3.out.mono hn₀)
      have hJ4 : Hid (J (k + 1) w3) := hJb.out _ _ _ hJ3.out hbx3.out
      have hown3 : Hid (w3.ownsRow w.heap.size 3 1 v' (k + 1) (ints ((List.range (k + 1)).map f))) := by
        unfold Hid
        rw [hrs.out, ints_append]
        exact hown'
      clear hown' hgrow
      go_wp2
      go_roundw
      case rel => exact ⟨k + 1, by omega, by go_num, hown3, hJ4, hbel3⟩
      case measure => simp [intOf]; omega
    · obtain rfl : k = n := by omega
      obtain ⟨A', c, rfl, _⟩ := own_form hown.out
      go_wp2
      go_ret2
      exact ⟨A', c, rfl, hown.out, hbel.out⟩

/-! ### Round -/
/-- The picks of Round. -/
def rnd (T : Nat) (k : Nat) : Int := ((k % T : Nat) : Int)
theorem round1_any (T : Nat) (h1 : 1 ≤ T) (h2 : T ≤ 64) (k b : Nat) (w : World) (hb : w.cell? ⟨b, 0, none⟩ = some (.int .i64 (T : Int))) :
    Calls Try.prog 39 #[.int .i64 k, .pointer (some ⟨b, 0, none⟩)] w fun e w' => e = .returned (.int .i64 (rnd T k)) ∧ w = w' := by
  have e1 : ((k : Int)).tmod (T : Int) = rnd T k := by rw [Int.tmod_eq_emod_of_nonneg (by omega)]; rfl
  go_enter Try.func39, Try.ntmps39
  go_wp2
  go_ret
  exact ⟨rfl, rfl⟩
theorem round_ok (T n : Nat) (h1 : 1 ≤ T) (h2 : T ≤ 64) (hn : n ≤ 65536) (w : World) :
    Calls Try.prog 28 #[.int .i64 (T : Int), .int .i64 (n : Int)] w (IntsEnd ((List.range n).map (rnd T)) w) := by
  have hB := Lib.hid (Blk.new w 3 #[.int .i64 (T : Int)])
  have hb : Hid (Below w.heap.size w (w.alloc (.cells #[.int .i64 (T : Int)] 3))) := (Below.refl _ _).alloc (Nat.le_refl _) _
  go_enter Try.func28, Try.ntmps28
  go_wp2_with fail
  refine (made1_ok T n h1 h2 hn w.heap.size w.heap.size w.heap.size (rnd T) (fun _ W => Blk W w.heap.size 3 #[.int .i64 (T : Int)]) _ (by simp) (by simp) (fun k W W' h hb => h.below hb (by simp)) (fun k W hk h => (round1_any T h1 h2 k w.heap.size W (by rw [h.cell]; rfl)).mono fun e W' ⟨h1, h2⟩ => ⟨h1, by rw [← h2]; exact h, by rw [← h2]; exact World.grownBy.refl _ _, by rw [← h2]; exact Below.refl _ _⟩) hB.out).mono ?_
  rintro e w2 ⟨A, c, rfl, hown, hb2⟩
  have hown2 := Lib.hid (own_base (base' := w.heap.size) hown (by simp))
  have hb3 := Lib.hid (hb.out.trans hb2)
  clear hown hb2
  go_wp2_with fail
  go_ret2
  have e2 : ((List.range n).map (rnd T)).length = n := by simp
  exact ⟨A, c, by rw [e2]; rfl, by rw [e2]; exact hown2.out, hb3.out⟩
theorem round_err (t n : Int) (w : World) (er : Int) (hc : siz t n = er) (h0 : er ≠ 0) :
    Calls Try.prog 28 #[.int .i64 t, .int .i64 n] w fun e w' => e = .returned (.tuple #[.slice none 0 0, .int .i64 er]) ∧ Below w.heap.size w w' := by
  have hb : Hid (Below w.heap.size w (w.alloc (.cells #[.int .i64 t] 3))) := (Below.refl _ _).alloc (Nat.le_refl _) _
  go_enter Try.func28, Try.ntmps28
  go_wp2_with fail
  refine (made_err t n _ _ er hc h0).mono ?_
  rintro e w' ⟨rfl, rfl⟩
  go_wp2_with fail
  go_ret2
  exact ⟨rfl, hb.out⟩

/-! ### Mixed -/
/-- The next number. -/
def nxt (x : Int) : Int := IntKind.u64.wrap (IntKind.u64.wrap (x * 2862933555777941757) + 3037000493)
/-- The pick of a number. -/
def pkk (T : Nat) (y : Int) : Int := (wrap64 (y / 8589934592)).tmod (T : Int)
/-- The number after k steps. -/
def mst (s : Int) : Nat → Int
  | 0 => s
  | k + 1 => nxt (mst s k)
/-- The picks of Mixed. -/
def mxd (T : Nat) (s : Int) (k : Nat) : Int := pkk T (mst s (k + 1))
theorem nxt_bd (x : Int) : 0 ≤ nxt x ∧ nxt x < 18446744073709551616 := by unfold nxt; rw [IntKind.wrap_u64]; omega
theorem pkk_bd (T : Nat) (h1 : 1 ≤ T) (x : Int) : 0 ≤ pkk T (nxt x) ∧ pkk T (nxt x) < T := by
  have := nxt_bd x
  unfold pkk
  rw [wrap_in _ (by omega), Int.tmod_eq_emod_of_nonneg (by omega)]
  exact mod_lo T _ (by omega)
theorem mxd_bd (T : Nat) (h1 : 1 ≤ T) (s : Int) (k : Nat) : 0 ≤ mxd T s k ∧ mxd T s k < T := pkk_bd T h1 _
theorem rnd_bd (T : Nat) (h1 : 1 ≤ T) (k : Nat) : 0 ≤ rnd T k ∧ rnd T k < T := by
  have := Nat.mod_lt k h1
  unfold rnd
  omega
theorem mixed1_any (T : Nat) (h1 : 1 ≤ T) (h2 : T ≤ 64) (x k : Int) (b b2 : Nat) (hne : b2 ≠ b) (w : World) (hB : Blk w b 43 #[.int .u64 x]) (hT : Blk w b2 3 #[.int .i64 (T : Int)]) :
    Calls Try.prog 41 #[.int .i64 k, .pointer (some ⟨b, 0, none⟩), .pointer (some ⟨b2, 0, none⟩)] w fun e w' => e = .returned (.int .i64 (pkk T (nxt x))) ∧ w' = w.setCell ⟨b, 0, none⟩ (.int .u64 (nxt x)) := by
  have c1 := hB.cell 0
  have c2 := hT.cell 0
  have f1 := hB.frozen 0
  simp at c1 c2
  go_enter Try.func41, Try.ntmps41
  go_wp2
  go_ret
  exact ⟨rfl, rfl⟩
theorem mixed_ok (s : Int) (T n : Nat) (h1 : 1 ≤ T) (h2 : T ≤ 64) (hn : n ≤ 65536) (w : World) :
    Calls Try.prog 30 #[.int .u64 s, .int .i64 (T : Int), .int .i64 (n : Int)] w (IntsEnd ((List.range n).map (mxd T s)) w) := by
  have hB := Lib.hid ((Blk.new w 3 #[.int .i64 (T : Int)]).alloc (.cells #[.int .u64 s] 43))
  have hX := Lib.hid (Blk.new1 w (.cells #[.int .i64 (T : Int)] 3) 43 #[.int .u64 s])
  have hb : Hid (Below w.heap.size w ((w.alloc (.cells #[.int .i64 (T : Int)] 3)).alloc (.cells #[.int .u64 s] 43))) := ((Below.refl _ _).alloc (Nat.le_refl _) _).alloc (by simp) _
  go_enter Try.func30, Try.ntmps30
  go_wp2_with fail
  refine (made2_ok T n h1 h2 hn (w.heap.size + 1) w.heap.size (w.heap.size + 1) w.heap.size (mxd T s) (fun k W => Blk W (w.heap.size + 1) 43 #[.int .u64 (mst s k)] ∧ Blk W w.heap.size 3 #[.int .i64 (T : Int)]) _ (by first | (simp; omega) | simp | omega) (by first | (simp; omega) | simp | omega) (fun k W W' h hb => ⟨h.1.below hb (by first | (simp; omega) | simp | omega), h.2.below hb (by first | (simp; omega) | simp | omega)⟩)
    (fun k W hk h => (mixed1_any T h1 h2 (mst s k) k (w.heap.size + 1) w.heap.size (by omega) W h.1 h.2).mono fun e W' ⟨e1, e2⟩ => ⟨e1, by rw [e2]; exact ⟨h.1.set_ 0 _, h.2.far (by simp) _⟩, by rw [e2]; exact grownBy_setCell' W _ _, by rw [e2]; exact (Below.refl _ _).setCell (by simp) _⟩) ⟨hX.out, hB.out⟩).mono ?_
  rintro e w2 ⟨A, c, rfl, hown, hb2⟩
  have hown2 := Lib.hid (own_base (base' := w.heap.size) hown (by first | (simp; omega) | simp | omega))
  have hb3 := Lib.hid (hb.out.trans hb2)
  clear hown hb2
  go_wp2_with fail
  go_ret2
  have e2 : ((List.range n).map (mxd T s)).length = n := by simp
  exact ⟨A, c, by rw [e2]; rfl, by rw [e2]; exact hown2.out, hb3.out⟩
theorem mixed_err (s t n : Int) (w : World) (er : Int) (hc : siz t n = er) (h0 : er ≠ 0) :
    Calls Try.prog 30 #[.int .u64 s, .int .i64 t, .int .i64 n] w fun e w' => e = .returned (.tuple #[.slice none 0 0, .int .i64 er]) ∧ Below w.heap.size w w' := by
  have hb : Hid (Below w.heap.size w ((w.alloc (.cells #[.int .i64 t] 3)).alloc (.cells #[.int .u64 s] 43))) := ((Below.refl _ _).alloc (Nat.le_refl _) _).alloc (by simp) _
  go_enter Try.func30, Try.ntmps30
  go_wp2_with fail
  refine (made_err t n _ _ er hc h0).mono ?_
  rintro e w' ⟨rfl, rfl⟩
  go_wp2_with fail
  go_ret2
  exact ⟨rfl, hb.out⟩

/-! ### The reference's -/
theorem size_any (t n : Int) (w : World) :
    Calls Try.prog 40 #[.int .i64 t, .int .i64 n] w fun e w' => e = .returned (.int .i64 (siz t n)) ∧ w = w' := by
  cases hv : vld t with
  | false =>
    have hc : siz t n = 2 := by unfold siz; rw [if_pos]; simp [vld] at hv; omega
    rw [hc]
    go_enter Try.func40, Try.ntmps40
    go_wp2_with fail
    refine (valid_any t _).mono ?_
    rintro e w' ⟨rfl, rfl⟩
    rw [hv]
    go_wp2_with fail
    go_ret
    exact ⟨rfl, rfl⟩
  | true =>
    have h12 : 1 ≤ t ∧ t ≤ 64 := by simpa [vld] using hv
    by_cases g1 : n < 0
    · have hc : siz t n = 2 := by unfold siz; rw [if_pos (by omega)]
      rw [hc]
      go_enter Try.func40, Try.ntmps40
      go_wp2_with fail
      refine (valid_any t _).mono ?_
      rintro e w' ⟨rfl, rfl⟩
      rw [hv]
      go_wp2_with fail
      go_ret
      exact ⟨rfl, rfl⟩
    · by_cases g3 : (65536 : Int) < n
      · have hc : siz t n = 5 := by unfold siz; rw [if_neg (by omega), if_pos g3]
        rw [hc]
        go_enter Try.func40, Try.ntmps40
        go_wp2_with fail
        refine (valid_any t _).mono ?_
        rintro e w' ⟨rfl, rfl⟩
        rw [hv]
        go_wp2_with fail
        go_ret
        exact ⟨rfl, rfl⟩
      · have hc : siz t n = 0 := by unfold siz; rw [if_neg (by omega), if_neg g3]
        rw [hc]
        go_enter Try.func40, Try.ntmps40
        go_wp2_with fail
        refine (valid_any t _).mono ?_
        rintro e w' ⟨rfl, rfl⟩
        rw [hv]
        go_wp2_with fail
        go_ret
        exact ⟨rfl, rfl⟩

theorem rround_err (t n : Int) (w : World) (er : Int) (hc : siz t n = er) (h0 : er = 2 ∨ er = 5) :
    Calls Try.prog 29 #[.int .i64 t, .int .i64 n] w fun e w' => e = .returned (.tuple #[.slice none 0 0, .int .i64 er]) ∧ w = w' := by
  rcases h0 with rfl | rfl
  all_goals
    go_enter Try.func29, Try.ntmps29
    go_wp2_with fail
    refine (size_any t n _).mono ?_
    rintro e w' ⟨rfl, rfl⟩
    rw [hc]
    go_wp2_with fail
    go_ret2
    exact ⟨rfl, rfl⟩
set_option maxHeartbeats 1000000 in
theorem rround_ok (T n : Nat) (h1 : 1 ≤ T) (h2 : T ≤ 64) (hn : n ≤ 65536) (w : World) :
    Calls Try.prog 29 #[.int .i64 (T : Int), .int .i64 (n : Int)] w (IntsEnd ((List.range n).map (rnd T)) w) := by
  obtain ⟨i0, hi0, hz0, hz1, hz2⟩ := info_parts infoInt
  have hc0 : siz T n = 0 := by unfold siz; rw [if_neg (by omega), if_neg (by omega)]
  go_enter Try.func29, Try.ntmps29
  go_wp2_with fail
  refine (size_any T n _).mono ?_
  rintro e w' ⟨rfl, rfl⟩
  rw [hc0]
  go_wp2_with fail
  go_loopw [7, 8] (fun v i wr => ∃ k : Nat, k ≤ n ∧ i = .int .i64 k ∧ Hid (wr.ownsRow w.heap.size 3 1 v k (ints ((List.range k).map (rnd T)))) ∧ Hid (Below w.heap.size w wr)) (fun _ i _ => n - (intOf i).toNat)
  case atStart => exact ⟨0, by omega, rfl, World.ownsRow_nil _ _ _ _, Below.refl _ _⟩
  case round =>
    obtain ⟨k, hk, rfl, hown, hbel⟩ := hrel
    by_cases hlt : k < n
    · have hsn := Lib.hid (range_snoc (rnd T) k)
      have hsz := Lib.hid hbel.out.size
      obtain ⟨c, hcc⟩ : ∃ c, rnd T k = c := ⟨_, rfl⟩
      have e1 : ((k : Int)).tmod (T : Int) = c := by rw [← hcc, Int.tmod_eq_emod_of_nonneg (by omega)]; rfl
      rw [hcc] at hsn
      clear hcc
      go_wp2_with (at_builtin; refine wpList_append_own _ rfl _ _ 22 rfl w.heap.size 3 i0 (.int .i64 0) 1 8 Try.underlying22 hi0 hz0 hz1 hz2 rfl (by decide) _ k (ints ((List.range k).map (rnd T))) rfl (hown.out.alloc _) ⟨wr.heap.size, 0, none⟩ 1 1 [.int .i64 c] rfl rfl (cell_one_new _ _ _) (by simp [Value.oneCell']) (by unfold maxLen; omega) (by omega) (by have := hsz.out; simp; omega) ?_; intro v' w1 hown' hgrow _)
      have hbel' : Hid (Below w.heap.size w w1) := (hbel.out.alloc hsz.out _).grown hgrow (by have := hsz.out; simp; omega) (fun q hq => (hown.out.lt q hq).1)
      have hown2 : Hid (w1.ownsRow w.heap.size 3 1 v' (k + 1) (ints ((List.range (k + 1)).map (rnd T)))) := by
        unfold Hid
        rw [hsn.out, ints_append]
        exact hown'
      clear hown' hgrow
      go_wp2
      go_roundw
      case rel => exact ⟨k + 1, by omega, by go_num, hown2, hbel'⟩
      case measure => simp [intOf]; omega
    · obtain rfl : k = n := by omega
      obtain ⟨A', c, rfl, _⟩ := own_form hown.out
      go_wp2
      go_ret2
      have e1 : ((List.range k).map (rnd T)).length = k := by simp
      exact ⟨A', c, by rw [e1]; rfl, by rw [e1]; exact hown.out, hbel.out⟩

theorem rmixed_err (s : Int) (t n : Int) (w : World) (er : Int) (hc : siz t n = er) (h0 : er = 2 ∨ er = 5) :
    Calls Try.prog 31 #[.int .u64 s, .int .i64 t, .int .i64 n] w fun e w' => e = .returned (.tuple #[.slice none 0 0, .int .i64 er]) ∧ w = w' := by
  rcases h0 with rfl | rfl
  all_goals
    go_enter Try.func31, Try.ntmps31
    go_wp2_with fail
    refine (size_any t n _).mono ?_
    rintro e w' ⟨rfl, rfl⟩
    rw [hc]
    go_wp2_with fail
    go_ret2
    exact ⟨rfl, rfl⟩
set_option maxHeartbeats 1000000 in
theorem rmixed_ok (s : Int) (T n : Nat) (h1 : 1 ≤ T) (h2 : T ≤ 64) (hn : n ≤ 65536) (w : World) :
    Calls Try.prog 31 #[.int .u64 s, .int .i64 (T : Int), .int .i64 (n : Int)] w (IntsEnd ((List.range n).map (mxd T s)) w) := by
  obtain ⟨i0, hi0, hz0, hz1, hz2⟩ := info_parts infoInt
  have hc0 : siz T n = 0 := by unfold siz; rw [if_neg (by omega), if_neg (by omega)]
  go_enter Try.func31, Try.ntmps31
  go_wp2_with fail
  refine (size_any T n _).mono ?_
  rintro e w' ⟨rfl, rfl⟩
  rw [hc0]
  go_wp2_with fail
  go_loopw [9, 10, 11] (fun v x i wr => ∃ k : Nat, k ≤ n ∧ i = .int .i64 k ∧ x = .int .u64 (mst s k) ∧ Hid (wr.ownsRow w.heap.size 3 1 v k (ints ((List.range k).map (mxd T s)))) ∧ Hid (Below w.heap.size w wr)) (fun _ _ i _ => n - (intOf i).toNat)
  case atStart => exact ⟨0, by omega, rfl, rfl, World.ownsRow_nil _ _ _ _, Below.refl _ _⟩
  case round =>
    obtain ⟨k, hk, rfl, rfl, hown, hbel⟩ := hrel
    by_cases hlt : k < n
    · have hsn := Lib.hid (range_snoc (mxd T s) k)
      have hsz := Lib.hid hbel.out.size
      obtain ⟨c, hcc⟩ : ∃ c, mxd T s k = c := ⟨_, rfl⟩
      have e1 : (wrap64 (IntKind.u64.wrap (IntKind.u64.wrap (mst s k * 2862933555777941757) + 3037000493) / 8589934592)).tmod (T : Int) = c := hcc
      rw [hcc] at hsn
      clear hcc
      go_wp2_with (at_builtin; refine wpList_append_own _ rfl _ _ 22 rfl w.heap.size 3 i0 (.int .i64 0) 1 8 Try.underlying22 hi0 hz0 hz1 hz2 rfl (by decide) _ k (ints ((List.range k).map (mxd T s))) rfl (hown.out.alloc _) ⟨wr.heap.size, 0, none⟩ 1 1 [.int .i64 c] rfl rfl (cell_one_new _ _ _) (by simp [Value.oneCell']) (by unfold maxLen; omega) (by omega) (by have := hsz.out; simp; omega) ?_; intro v' w1 hown' hgrow _)
      have hbel' : Hid (Below w.heap.size w w1) := (hbel.out.alloc hsz.out _).grown hgrow (by have := hsz.out; simp; omega) (fun q hq => (hown.out.lt q hq).1)
      have hown2 : Hid (w1.ownsRow w.heap.size 3 1 v' (k + 1) (ints ((List.range (k + 1)).map (mxd T s)))) := by
        unfold Hid
        rw [hsn.out, ints_append]
        exact hown'
      clear hown' hgrow
      go_wp2
      go_roundw
      case rel => exact ⟨k + 1, by omega, by go_num, rfl, hown2, hbel'⟩
      case measure => simp [intOf]; omega
    · obtain rfl : k = n := by omega
      obtain ⟨A', c, rfl, _⟩ := own_form hown.out
      go_wp2
      go_ret2
      have e1 : ((List.range k).map (mxd T s)).length = k := by simp
      exact ⟨A', c, by rw [e1]; rfl, by rw [e1]; exact hown.out, hbel.out⟩
end Go.Proofs.Ytjpmhofpfmogiaa
