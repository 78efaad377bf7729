/- Expand walked: the program's and the reference's (printed by gen_exp.py). -/
import Derived.Test.YtjpmhofpfmogiaaMade
import Derived.Test.YtjpmhofpfmogiaaExpP
namespace Go.Proofs.Ytjpmhofpfmogiaa
open Go Go.RowKit
set_option linter.unusedVariables false

/-- The head of a slice that reads as a list is a place of the heap. -/
theorem reads_head {w : World} {B n size : Nat} {A : Option Addr} {xs : List Value} (h : Reads w B size A n xs) (hn : 0 < n) (hs : 0 < size) : ∃ b o, A = some ⟨b, o, none⟩ ∧ b < B := by
  obtain ⟨ad, e, hb, hc⟩ := h.2 hn
  have hl : 0 < xs.length := by rw [h.1]; exact Nat.mul_pos hn hs
  have h0 := hc 0 _ (List.getElem?_eq_getElem hl)
  obtain ⟨b, o, sp⟩ := ad
  have : sp = none := by simpa [Addr.add] using World.cell?_spot h0
  subst this
  exact ⟨b, o, e, hb⟩
/-- The element k of a list of ints, and its cell. -/
theorem ints_at {w : World} {B b o n k : Nat} {l : List Int} (h : Reads w B 1 (some ⟨b, o, none⟩) n (ints l)) (hk : k < n) : ∃ v, l[k]? = some v ∧ w.cell? ⟨b, o + k, none⟩ = some (.int .i64 v) := by
  obtain ⟨ad, u, e, _, hx, hc⟩ := h.at_ hk
  obtain rfl := Option.some.inj e
  obtain ⟨v, hv, rfl⟩ := ints_get l k hx
  rw [Addr.add_lit] at hc
  exact ⟨v, hv, hc⟩
/-- What Expand returns. -/
def ExpEnd (l : List Int) (w : World) (e : Ending) (w' : World) : Prop :=
  (exErr l = 0 ∧ IntsEnd (expd l) w e w') ∨ (exErr l ≠ 0 ∧ e = .returned (.tuple #[.slice none 0 0, .int .i64 (exErr l)]) ∧ Below w.heap.size w w')
theorem expEnd_ok {l : List Int} {w w' : World} {e : Ending} (h0 : exErr l = 0) (h : IntsEnd (expd l) w e w') : ExpEnd l w e w' := .inl ⟨h0, h⟩
theorem expEnd_err {l : List Int} {w w' : World} {er : Int} (h0 : exErr l = er) (h1 : er ≠ 0) (hb : Below w.heap.size w w') : ExpEnd l w (.returned (.tuple #[.slice none 0 0, .int .i64 er])) w' :=
  .inr ⟨by rw [h0]; exact h1, by rw [h0], hb⟩

theorem expand_odd (l : List Int) (A : Option Addr) (len cap : Nat) (w : World) (hl : l.length = len) (ho : len % 2 = 1) :
    Calls Try.prog 25 #[.slice A len cap] w (ExpEnd l w) := by
  have he : exErr l = 2 := by unfold exErr; rw [if_pos]; left; omega
  have e1 : ((len : Int)).tmod 2 = 1 := by rw [Int.tmod_eq_emod_of_nonneg (by omega)]; omega
  have e2 : (len : Int) % 2 = 1 := by omega
  go_enter Try.func25, Try.ntmps25
  go_wp2
  go_ret2
  exact expEnd_err he (by decide) (Below.refl _ _)

theorem rexpand_odd (l : List Int) (A : Option Addr) (len cap : Nat) (w : World) (hl : l.length = len) (ho : len % 2 = 1) :
    Calls Try.prog 26 #[.slice A len cap] w (ExpEnd l w) := by
  have he : exErr l = 2 := by unfold exErr; rw [if_pos]; left; omega
  have e1 : ((len : Int)).tmod 2 = 1 := by rw [Int.tmod_eq_emod_of_nonneg (by omega)]; omega
  have e2 : (len : Int) % 2 = 1 := by omega
  go_enter Try.func26, Try.ntmps26
  go_wp2
  go_ret2
  exact expEnd_err he (by decide) (Below.refl _ _)

set_option maxHeartbeats 4000000 in
theorem expand_even (l : List Int) (A : Option Addr) (len cap : Nat) (w : World) (hr : Hid (Reads w w.heap.size 1 A len (ints l))) (hlen : len ≤ 65536) (ho : len % 2 = 0) :
    Calls Try.prog 25 #[.slice A len cap] w (ExpEnd l w) := by
  have hl : Hid (l.length = len) := by have := hr.out.1; rw [ints_len] at this; unfold Hid; omega
  have e1 : ((len : Int)).tmod 2 = 0 := by rw [Int.tmod_eq_emod_of_nonneg (by omega)]; omega
  have e2 : (len : Int) % 2 = 0 := by omega
  obtain ⟨i0, hi0, hz0, hz1, hz2⟩ := info_parts infoInt
  go_enter Try.func25, Try.ntmps25
  go_wp2_with fail
  clear e1 e2
  go_loopw [4, 5] (fun s i wr => ∃ (r : Nat) (S : Int), r ≤ len ∧ r % 2 = 0 ∧ i = .int .i64 ((r : Int) + 1) ∧ s = .int .i64 S ∧ 0 ≤ S ∧ S ≤ 65537 ∧ Hid (SumAt l r S) ∧ Hid (Below w.heap.size w wr)) (fun _ i _ => len + 1 - (intOf i).toNat)
  case atStart => exact ⟨0, 0, by omega, rfl, rfl, rfl, by omega, by omega, sumAt_zero l, Below.refl _ _⟩
  case round =>
    obtain ⟨r, S, hk, hr2, rfl, rfl, hS0, hS1, hS, hbel⟩ := hrel
    by_cases hlt : r < len
    · obtain ⟨b, o, rfl, hbB⟩ := reads_head hr.out (by omega) (by decide)
      obtain ⟨v, hv, hc0⟩ := ints_at (hr.out.below hbel.out) (k := r) (by omega)
      obtain ⟨c, hcv, hc1⟩ := ints_at (hr.out.below hbel.out) (k := r + 1) (by omega)
      have hV := Lib.hid hv
      have hC := Lib.hid hcv
      have r0 : (0 : Int) ≤ (r : Int) := by omega
      have r1 : (r : Int) < (len : Int) := by omega
      have r2 : (r : Int) + 1 < (len : Int) := by omega
      clear hv hcv
      by_cases hc : c < 0
      · have he : Hid (exErr l = 2) := by unfold Hid exErr; rw [if_pos]; exact .inr (sumAt_bad hS.out hV.out hC.out hc)
        go_wp2_with fail
        go_ret2
        exact expEnd_err he.out (by decide) hbel.out
      · have hS2 := Lib.hid (sumAt_step hS.out hV.out hC.out (by omega))
        obtain ⟨S2, hS2e⟩ : ∃ S2, min (S + min c 65537) 65537 = S2 := ⟨_, rfl⟩
        rw [hS2e] at hS2
        have hc' : 0 ≤ c := by omega
        by_cases h1 : c < 65537
        · by_cases h2 : S + c < 65537
          · obtain rfl : S2 = S + c := by omega
            clear hS2e
            go_wp2_with fail
            go_roundw
            case rel => exact ⟨r + 2, _, by omega, by omega, congrArg (Value.int .i64) (by omega), rfl, by omega, by omega, hS2, hbel⟩
            case measure => simp [intOf]; omega
          · obtain rfl : S2 = 65537 := by omega
            clear hS2e
            go_wp2_with fail
            go_roundw
            case rel => exact ⟨r + 2, 65537, by omega, by omega, congrArg (Value.int .i64) (by omega), congrArg (Value.int .i64) (by first | rfl | (split <;> omega) | omega), by omega, by omega, hS2, hbel⟩
            case measure => simp [intOf]; omega
        · obtain rfl : S2 = 65537 := by omega
          clear hS2e
          have h2 : ¬ S + 65537 < 65537 := by omega
          by_cases h3 : S = 0
          · subst h3
            go_wp2_with fail
            go_roundw
            case rel => exact ⟨r + 2, 65537, by omega, by omega, congrArg (Value.int .i64) (by omega), congrArg (Value.int .i64) (by first | rfl | (split <;> omega) | omega), by omega, by omega, hS2, hbel⟩
            case measure => simp [intOf]; omega
          · go_wp2_with fail
            go_roundw
            case rel => exact ⟨r + 2, 65537, by omega, by omega, congrArg (Value.int .i64) (by omega), congrArg (Value.int .i64) (by first | rfl | (split <;> omega) | omega), by omega, by omega, hS2, hbel⟩
            case measure => simp [intOf]; omega
    · obtain rfl : r = len := by omega
      obtain ⟨hbad, hSe⟩ := sumAt_end hS.out (by rw [hl.out]; exact Nat.le_refl _)
      have hBad := Lib.hid hbad
      by_cases hbig : 65536 < S
      · have he : Hid (exErr l = 5) := by unfold Hid exErr; rw [if_neg (by rw [hl.out, hBad.out]; simp; omega), if_pos (by omega)]
        clear hSe hbad
        go_wp2_with fail
        go_ret2
        exact expEnd_err he.out (by decide) hbel.out
      · obtain ⟨N, rfl⟩ := Int.eq_ofNat_of_zero_le hS0
        have htot : tot l = (N : Int) := by omega
        have hxl := expd_len l hbad
        rw [htot] at hxl
        have hXL : Hid ((expd l).length = N) := by unfold Hid; omega
        have hN : N ≤ 65536 := by omega
        have hE0 : Hid (exErr l = 0) := by unfold Hid exErr; rw [if_neg (by rw [hl.out, hBad.out]; simp; omega), if_neg (by omega)]
        clear hSe hbad htot hxl hbig hS hS1
        have hmk : ∀ W : World, (Instr.makeSlice 22 (.int .i64 0) (.int .i64 (N : Int))).run Try.prog W = .ok (.slice (some ⟨W.heap.size, 0, none⟩) 0 N) (W.alloc (.cells (madeCells (Value.int .i64 0).cells (N * i0.size)) 3)) := by
          intro W
          have h := run_make (P := Try.prog) W 22 3 i0 (.int .i64 0) Try.underlying22 hi0 hz0 .i64 .i64 0 N (by omega) (by omega) (by rw [hz2]; omega) (by omega)
          rw [h]
          simp only [Int.toNat_natCast]
          rfl
        obtain ⟨cs, hcs, hcz⟩ : ∃ cs : Array Value, madeCells (Value.int .i64 0).cells (N * i0.size) = cs ∧ cs.size = N := ⟨_, rfl, by rw [hz1, Nat.mul_one, ← Array.length_toList, show (Value.int IntKind.i64 0).cells = #[.int .i64 0] from rfl, toList_madeCells_one, List.length_replicate]⟩
        rw [hcs] at hmk
        have n0 : ¬ ((65536 : Int) < (N : Int)) := by omega
        go_wp2_with fail
        clear hmk
        have hE := Lib.hid (expAt_zero hBad.out)
        have hsz0 := Lib.hid hbel.out.size
        have hr0 : Hid ((wr.alloc (.cells cs 3)).ownsRow w.heap.size 3 1 (.slice (some ⟨wr.heap.size, 0, none⟩) 0 N) 0 []) := by
          have hh := Blk.new wr 3 cs
          unfold Blk at hh
          exact ⟨rfl, .inr ⟨_, _, _, rfl, hsz0.out, hh, Nat.zero_le _, by unfold maxLen; omega, by rw [hcz, Nat.mul_one], by simp⟩⟩
        have hb0 : Hid (Below w.heap.size w (wr.alloc (.cells cs 3))) := hbel.out.alloc hsz0.out _
        clear hbel hcs
        obtain ⟨len, hlr⟩ : ∃ len, r = len := ⟨_, rfl⟩
        subst hlr
        go_loopg [6, 7] (r / 2) (fun g s i wr => ∃ (q : Nat) (os : List Int), q + 2 * g = r ∧ i = .int .i64 ((q : Int) + 1) ∧ os.length ≤ N ∧ Hid (ExpAt l q os) ∧ Hid (wr.ownsRow w.heap.size 3 1 s os.length (ints os)) ∧ Hid (Below w.heap.size w wr))
        case atStart => exact ⟨0, [], by omega, rfl, by simp, hE, hr0.out, hb0.out⟩
        case round =>
          clear hr0 hb0 hE hsz0
          obtain ⟨q, os, hq, rfl, hos, hE, hown, hbel⟩ := hrel
          cases gk with
          | zero =>
            obtain rfl : q = r := by omega
            have hee := Lib.hid (expAt_end hE.out (by rw [hl.out]; exact Nat.le_refl _))
            obtain ⟨A', c, rfl, _⟩ := own_form hown.out
            go_wp2_with fail
            go_ret2
            exact expEnd_ok hE0.out ⟨A', c, by rw [hee.out]; rfl, by rw [hee.out]; exact hown.out, hbel.out⟩
          | succ g =>
            obtain ⟨b, o, rfl, hbB⟩ := reads_head hr.out (by omega) (by decide)
            obtain ⟨v, hv, hc0⟩ := ints_at (hr.out.below hbel.out) (k := q) (by omega)
            obtain ⟨c, hcv, hc1⟩ := ints_at (hr.out.below hbel.out) (k := q + 1) (by omega)
            obtain ⟨hcn, hcop⟩ := expAt_open hE.out hv hcv
            obtain ⟨cN, rfl⟩ := Int.eq_ofNat_of_zero_le hcn
            have hCo := Lib.hid (show CopAt l q v cN os by simpa using hcop)
            have hV := Lib.hid hv
            have hcl := copAt_len hCo.out
            have hcl2 : os.length + cN ≤ N := by have := hXL.out; omega
            have hcN : cN ≤ 65536 := by omega
            have q0 : (0 : Int) ≤ (q : Int) := by omega
            have q1 : (q : Int) < (r : Int) := by omega
            have q2 : (q : Int) + 1 < (r : Int) := by omega
            have hown0 := hown
            have hbel0 := hbel
            clear hv hcv hcop hE hcl hbel
            go_wp2_with fail
            clear hc0 hc1 hown
            go_loopg [6, 45] cN (fun g2 s i wr => ∃ (j : Nat) (os : List Int), j + g2 = cN ∧ i = .int .i64 j ∧ os.length + g2 ≤ N ∧ Hid (CopAt l q v g2 os) ∧ Hid (wr.ownsRow w.heap.size 3 1 s os.length (ints os)) ∧ Hid (Below w.heap.size w wr))
            case atStart => exact ⟨0, os, by omega, rfl, hcl2, hCo, hown0.out, hbel0.out⟩
            case round =>
              clear hown0 hbel0 hCo hcl2 hos
              obtain ⟨j, os, hj, rfl, hos, hCo, hown, hbel⟩ := hrel
              cases gk with
              | zero =>
                obtain rfl : j = cN := by omega
                have hE2 := Lib.hid (copAt_end hCo.out)
                go_wp2_with fail
                go_roundg g
                case measure => omega
                case rel => exact ⟨q + 2, os, by omega, congrArg (Value.int .i64) (by omega), by omega, hE2, hown, hbel⟩
              | succ g2 =>
                obtain ⟨v2, hv2, hc0⟩ := ints_at (hr.out.below hbel.out) (k := q) (by omega)
                obtain rfl : v = v2 := Option.some.inj (hV.out.symm.trans hv2)
                have hsz := Lib.hid hbel.out.size
                have hCo2 := Lib.hid (copAt_step hCo.out)
                have j1 : (j : Int) < (cN : Int) := by omega
                have j2 : j ≤ 65536 := by omega
                clear hv2
                go_wp2_with (at_builtin; refine wpList_append_own _ rfl _ _ 22 rfl w.heap.size 3 i0 (.int .i64 0) 1 8 Try.underlying22 hi0 hz0 hz1 hz2 rfl (by decide) u6 os.length (ints os) rfl (hown.out.alloc _) ⟨wr.heap.size, 0, none⟩ 1 1 [.int .i64 v] rfl rfl (cell_one_new _ _ _) (by simp [Value.oneCell']) (by unfold maxLen; omega) (by omega) (by have := hsz.out; simp; omega) ?_; intro v' w1 hown' hgrow _)
                have hbel' : Hid (Below w.heap.size w w1) := (hbel.out.alloc hsz.out _).grown hgrow (by have := hsz.out; simp; omega) (fun q hq => (hown.out.lt q hq).1)
                have hown2 : Hid (w1.ownsRow w.heap.size 3 1 v' (os ++ [v]).length (ints (os ++ [v]))) := by
                  unfold Hid
                  rw [ints_append, List.length_append]
                  exact hown'
                clear hown' hgrow
                clear hc0
                go_wp2
                go_roundg g2
                case measure => omega
                case rel => exact ⟨j + 1, os ++ [v], by omega, by go_num, by simp; omega, hCo2, hown2, hbel'⟩

theorem badAt_bad {l : List Int} {r : Nat} {v c : Int} (h : bad (l.drop r) = bad l) (hv : l[r]? = some v) (hc : l[r + 1]? = some c) (h0 : c < 0) : bad l = true := by
  rw [← h, drop_two hv hc]
  simp [bad, h0]
theorem badAt_step {l : List Int} {r : Nat} {v c : Int} (h : bad (l.drop r) = bad l) (hv : l[r]? = some v) (hc : l[r + 1]? = some c) (h0 : 0 ≤ c) : bad (l.drop (r + 2)) = bad l := by
  rw [← h, drop_two hv hc]
  simp [bad]
  omega
theorem badAt_end {l : List Int} {r : Nat} (h : bad (l.drop r) = bad l) (hr : l.length ≤ r) : bad l = false := by
  rw [← h, List.drop_of_length_le hr]
  rfl
set_option maxHeartbeats 4000000 in
theorem rexpand_even (l : List Int) (A : Option Addr) (len cap : Nat) (w : World) (hr : Hid (Reads w w.heap.size 1 A len (ints l))) (hlen : len ≤ 65536) (ho : len % 2 = 0) :
    Calls Try.prog 26 #[.slice A len cap] w (ExpEnd l w) := by
  have hl : Hid (l.length = len) := by have := hr.out.1; rw [ints_len] at this; unfold Hid; omega
  have e1 : ((len : Int)).tmod 2 = 0 := by rw [Int.tmod_eq_emod_of_nonneg (by omega)]; omega
  have e2 : (len : Int) % 2 = 0 := by omega
  obtain ⟨i0, hi0, hz0, hz1, hz2⟩ := info_parts infoInt
  go_enter Try.func26, Try.ntmps26
  go_wp2_with fail
  clear e1 e2
  go_loopw [5] (fun i wr => ∃ (r : Nat), r ≤ len ∧ r % 2 = 0 ∧ i = .int .i64 ((r : Int) + 1) ∧ Hid (bad (l.drop r) = bad l) ∧ Hid (Below w.heap.size w wr)) (fun i _ => len + 1 - (intOf i).toNat)
  case atStart => exact ⟨0, by omega, rfl, rfl, by rw [List.drop_zero]; exact Lib.hid rfl, Below.refl _ _⟩
  case round =>
    obtain ⟨r, hk, hr2, rfl, hS, hbel⟩ := hrel
    by_cases hlt : r < len
    · obtain ⟨b, o, rfl, hbB⟩ := reads_head hr.out (by omega) (by decide)
      obtain ⟨v, hv, hc0⟩ := ints_at (hr.out.below hbel.out) (k := r) (by omega)
      obtain ⟨c, hcv, hc1⟩ := ints_at (hr.out.below hbel.out) (k := r + 1) (by omega)
      have hV := Lib.hid hv
      have hC := Lib.hid hcv
      have r0 : (0 : Int) ≤ (r : Int) := by omega
      have r1 : (r : Int) < (len : Int) := by omega
      have r2 : (r : Int) + 1 < (len : Int) := by omega
      clear hv hcv
      by_cases hc : c < 0
      · have he : Hid (exErr l = 2) := by unfold Hid exErr; rw [if_pos]; exact .inr (badAt_bad hS.out hV.out hC.out hc)
        go_wp2_with fail
        go_ret2
        exact expEnd_err he.out (by decide) hbel.out
      · have hS2 := Lib.hid (badAt_step hS.out hV.out hC.out (by omega))
        go_wp2_with fail
        go_roundw
        case rel => exact ⟨r + 2, by omega, by omega, congrArg (Value.int .i64) (by omega), hS2, hbel⟩
        case measure => simp [intOf]; omega
    · obtain rfl : len = r := by omega
      have hBad := Lib.hid (badAt_end hS.out (by rw [hl.out]; exact Nat.le_refl _))
      have hb0 := hbel
      go_wp2_with fail
      clear hbel hS
      go_loopw [4, 6] (fun s i wr => ∃ (r : Nat) (S : Int), r ≤ len ∧ r % 2 = 0 ∧ i = .int .i64 ((r : Int) + 1) ∧ s = .int .i64 S ∧ 0 ≤ S ∧ S ≤ 65536 ∧ Hid (LeftAt l r S) ∧ Hid (Below w.heap.size w wr)) (fun _ i _ => len + 1 - (intOf i).toNat)
      case atStart => exact ⟨0, 65536, by omega, rfl, rfl, rfl, by omega, by omega, leftAt_zero hBad.out, hb0.out⟩
      case round =>
        clear hb0
        obtain ⟨r, S, hk, hr2, rfl, rfl, hS0, hS1, hS, hbel⟩ := hrel
        by_cases hlt : r < len
        · obtain ⟨b, o, rfl, hbB⟩ := reads_head hr.out (by omega) (by decide)
          obtain ⟨v, hv, hc0⟩ := ints_at (hr.out.below hbel.out) (k := r) (by omega)
          obtain ⟨c, hcv, hc1⟩ := ints_at (hr.out.below hbel.out) (k := r + 1) (by omega)
          have hV := Lib.hid hv
          have hC := Lib.hid hcv
          have r0 : (0 : Int) ≤ (r : Int) := by omega
          have r1 : (r : Int) < (len : Int) := by omega
          have r2 : (r : Int) + 1 < (len : Int) := by omega
          clear hv hcv
          by_cases hc : S < c
          · have he : Hid (exErr l = 5) := by unfold Hid exErr; rw [if_neg (by rw [hl.out, hBad.out]; simp; omega), if_pos (leftAt_long hS.out hV.out hC.out hc)]
            go_wp2_with fail
            go_ret2
            exact expEnd_err he.out (by decide) hbel.out
          · obtain ⟨hc0', hS2⟩ := leftAt_step hS.out hV.out hC.out (by omega)
            have hS3 := Lib.hid hS2
            clear hS2
            go_wp2_with fail
            go_roundw
            case rel => exact ⟨r + 2, S - c, by omega, by omega, congrArg (Value.int .i64) (by omega), by go_num, by omega, by omega, hS3, hbel⟩
            case measure => simp [intOf]; omega
        · obtain rfl : len = r := by omega
          have htot := leftAt_end hS.out (by rw [hl.out]; exact Nat.le_refl _)
          have hE0 : Hid (exErr l = 0) := by unfold Hid exErr; rw [if_neg (by rw [hl.out, hBad.out]; simp; omega), if_neg (by omega)]
          have hxl := expd_len l hBad.out
          obtain ⟨N, hNe⟩ : ∃ N, (expd l).length = N := ⟨_, rfl⟩
          have hN : N ≤ 65536 := by omega
          have hXL := Lib.hid hNe
          have hE := Lib.hid (expAt_zero hBad.out)
          have hb0 := hbel
          clear htot hxl hNe hS
          go_wp2_with fail
          clear hbel
          go_loopg [7, 8] (len / 2) (fun g s i wr => ∃ (q : Nat) (os : List Int), q + 2 * g = len ∧ i = .int .i64 (q : Int) ∧ os.length ≤ N ∧ Hid (ExpAt l q os) ∧ Hid (wr.ownsRow w.heap.size 3 1 s os.length (ints os)) ∧ Hid (Below w.heap.size w wr))
          case atStart => exact ⟨0, [], by omega, rfl, by simp, hE, World.ownsRow_nil _ _ _ _, hb0.out⟩
          case round =>
            clear hb0 hE
            obtain ⟨q, os, hq, rfl, hos, hE, hown, hbel⟩ := hrel
            cases gk with
            | zero =>
              obtain rfl : len = q := by omega
              have hee := Lib.hid (expAt_end hE.out (by rw [hl.out]; exact Nat.le_refl _))
              obtain ⟨A', c, rfl, _⟩ := own_form hown.out
              go_wp2_with fail
              go_ret2
              exact expEnd_ok hE0.out ⟨A', c, by rw [hee.out]; rfl, by rw [hee.out]; exact hown.out, hbel.out⟩
            | succ g =>
              obtain ⟨b, o, rfl, hbB⟩ := reads_head hr.out (by omega) (by decide)
              obtain ⟨v, hv, hc0⟩ := ints_at (hr.out.below hbel.out) (k := q) (by omega)
              obtain ⟨c, hcv, hc1⟩ := ints_at (hr.out.below hbel.out) (k := q + 1) (by omega)
              obtain ⟨hcn, hcop⟩ := expAt_open hE.out hv hcv
              obtain ⟨cN, rfl⟩ := Int.eq_ofNat_of_zero_le hcn
              have hCo := Lib.hid (show CopAt l q v cN os by simpa using hcop)
              have hV := Lib.hid hv
              have hC := Lib.hid hcv
              have hcl := copAt_len hCo.out
              have hcl2 : os.length + cN ≤ N := by have := hXL.out; omega
              have hcN : cN ≤ 65536 := by omega
              have q0 : (0 : Int) ≤ (q : Int) := by omega
              have q1 : (q : Int) < (len : Int) := by omega
              have q2 : (q : Int) + 1 < (len : Int) := by omega
              have hown0 := hown
              have hbel0 := hbel
              clear hv hcv hcop hE hcl hbel
              go_wp2_with fail
              clear hc0 hc1 hown
              go_loopg [7, 9] cN (fun g2 s i wr => ∃ (j : Nat) (os : List Int), j + g2 = cN ∧ i = .int .i64 j ∧ os.length + g2 ≤ N ∧ Hid (CopAt l q v g2 os) ∧ Hid (wr.ownsRow w.heap.size 3 1 s os.length (ints os)) ∧ Hid (Below w.heap.size w wr))
              case atStart => exact ⟨0, os, by omega, rfl, hcl2, hCo, hown0.out, hbel0.out⟩
              case round =>
                clear hown0 hbel0 hCo hcl2 hos
                obtain ⟨j, os, hj, rfl, hos, hCo, hown, hbel⟩ := hrel
                obtain ⟨v2, hv2, hc0⟩ := ints_at (hr.out.below hbel.out) (k := q) (by omega)
                obtain rfl : v = v2 := Option.some.inj (hV.out.symm.trans hv2)
                obtain ⟨c2, hcv2, hc1⟩ := ints_at (hr.out.below hbel.out) (k := q + 1) (by omega)
                obtain rfl : (cN : Int) = c2 := Option.some.inj (hC.out.symm.trans hcv2)
                clear hv2 hcv2
                cases gk with
                | zero =>
                  obtain rfl : j = cN := by omega
                  have hE2 := Lib.hid (copAt_end hCo.out)
                  go_wp2_with fail
                  go_roundg g
                  case measure => omega
                  case rel => exact ⟨q + 2, os, by omega, congrArg (Value.int .i64) (by omega), by omega, hE2, hown, hbel⟩
                | succ g2 =>
                  have hsz := Lib.hid hbel.out.size
                  have hCo2 := Lib.hid (copAt_step hCo.out)
                  have j1 : (j : Int) < (cN : Int) := by omega
                  have j2 : j ≤ 65536 := by omega
                  go_wp2_with (at_builtin; refine wpList_append_own _ rfl _ _ 22 rfl w.heap.size 3 i0 (.int .i64 0) 1 8 Try.underlying22 hi0 hz0 hz1 hz2 rfl (by decide) u7 os.length (ints os) rfl (hown.out.alloc _) ⟨wr.heap.size, 0, none⟩ 1 1 [.int .i64 v] rfl rfl (cell_one_new _ _ _) (by simp [Value.oneCell']) (by unfold maxLen; omega) (by omega) (by have := hsz.out; simp; omega) ?_; intro v' w1 hown' hgrow _)
                  have hbel' : Hid (Below w.heap.size w w1) := (hbel.out.alloc hsz.out _).grown hgrow (by have := hsz.out; simp; omega) (fun q hq => (hown.out.lt q hq).1)
                  have hown2 : Hid (w1.ownsRow w.heap.size 3 1 v' (os ++ [v]).length (ints (os ++ [v]))) := by
                    unfold Hid
                    rw [ints_append, List.length_append]
                    exact hown'
                  clear hown' hgrow
                  clear hc0 hc1
                  go_wp2
                  go_roundg g2
                  case measure => omega
                  case rel => exact ⟨j + 1, os ++ [v], by omega, by go_num, by simp; omega, hCo2, hown2, hbel'⟩
end Go.Proofs.Ytjpmhofpfmogiaa
