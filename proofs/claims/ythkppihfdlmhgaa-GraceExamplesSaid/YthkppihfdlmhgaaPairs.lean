/- event.pairs walked (printed by gen_pairs.py). -/
import Derived.Test.YthkppihfdlmhgaaClo
import Derived.Test.YthkppihfdlmhgaaSecS
import Derived.Test.YthkppihfdlmhgaaRSec
import Derived.MapKept
import Derived.Lib.SmallJoins
namespace Go.Proofs.Ythkppihfdlmhgaa
open Go Go.RowKit
set_option linter.unusedVariables false

set_option maxRecDepth 100000 in
set_option maxHeartbeats 8000000 in
theorem pairsSection_any (l : List Ev) (A : Option Addr) (n c : Nat) (w : World) (hr : Hid (Reads w w.heap.size 4 A n (evs l))) (hn : n ≤ 65536) :
    Calls Try.prog 33 #[.slice A n c, .int .u8 1, .int .u8 2, .func (.func 34) #[] #[], .func (.func 35) #[] #[]] w (SecEnd 43 1 l w) := by
  have hl := Lib.hid (evs_n hr.out)
  have hmm := @run_makeMap Try.prog
  obtain ⟨i0, hi0, hz0, hz1, hz2⟩ := info_parts infoSec
  go_enter Try.func33, Try.ntmps33
  go_wp2_with fail
  refine (check_any l A n c _ hr hn).mono ?_
  rintro e w1 ⟨a, er, rfl, hck, hb⟩
  have hb1 := Lib.hid hb
  clear hb
  rcases ckIs_cases hck with ⟨rfl, hbad⟩ | ⟨rfl, hfine⟩
  · have hB := Lib.hid hbad
    clear hck hbad
    go_wp2_with fail
    go_ret2
    exact .inr ⟨hB.out, rfl, hb1.out⟩
  have hF := Lib.hid hfine
  clear hck hfine
  have hMw : Hid (w.heap.size ≤ w1.heap.size) := hb1.out.size
  obtain ⟨M, hM0⟩ : ∃ M, M = w1.heap.size := ⟨_, rfl⟩
  rw [← hM0] at hMw
  have hm0 : IsMapOf (w1.alloc (.map #[] 0)) M .i64 [] 0 := by unfold IsMapOf; rw [hM0]; exact heap_alloc_new w1 _
  have hbm : Hid (Below w.heap.size w (w1.alloc (.map #[] 0))) := hb1.out.alloc (by have := hMw.out; omega) _
  go_wp2_with fail
  rw [← hM0]
  clear hM0
  go_loopg [14, 29] n (fun g v i wr => ∃ (k clk : Nat) (kv : List (Int × Value × Nat)) (os : List Sec), k + g = n ∧ i = .int .i64 k ∧ os.length ≤ k ∧ Hid (os = secsK 1 (l.take k)) ∧ Hid (PInv 1 l k) ∧ Hid (MapIs kv os) ∧ Hid (IsMapOf wr M .i64 kv clk) ∧ Hid (wr.ownsRow (M + 1) 43 4 v os.length (secs os)) ∧ Hid (Below w.heap.size w wr))
  case atStart => exact ⟨0, 0, [], [], by omega, rfl, Nat.le_refl _, by unfold Hid; simp [secsK], pinv_zero _ (by decide) l, mapIs_nil, hm0, World.ownsRow_nil _ _ _ _, hbm⟩
  case round =>
    obtain ⟨k, clk, kv, os, hk, rfl, hol, hos, hP, hMI, hM, hown, hbel⟩ := hrel
    obtain ⟨A1, c1, rfl, hc1, hc1'⟩ := own_form hown.out
    cases gk with
    | zero =>
      obtain rfl : k = n := by omega
      have hz : Hid (os = secsK 1 l) := by
        unfold Hid
        rw [hos.out, List.take_of_length_le (by rw [hl.out]; exact Nat.le_refl _)]
      go_wp2_with fail
      go_ret2
      exact .inl ⟨_, hF.out, rfl, by rw [← hz.out]; exact own_base hown.out (by have := hMw.out; omega), hbel.out⟩
    | succ g =>
      obtain ⟨b, o, rfl, hbB⟩ := reads_head hr.out (by omega) (by decide)
      have hsz := Lib.hid hbel.out.size
      have hMlt : Hid (M < wr.heap.size) := (Array.getElem?_eq_some_iff.1 hM.out).1
      have hbw : b < wr.heap.size := by have := hsz.out; omega
      obtain ⟨⟨es, et, ek, ev⟩, he0, c0, c1', c2, c3⟩ := ev_at (hr.out.below hbel.out) (show k < n by omega)
      have hkl : k < l.length := by rw [hl.out]; omega
      have hgood := hF.out k _ hkl he0
      have hps := pstep (q := 1) (by decide) he0 (fun j e hj he => hF.out j e (by omega) he) hgood hP.out
      obtain ⟨hP2', hst⟩ := hps
      have hP2 := Lib.hid hP2'
      rw [← hos.out] at hst
      clear he0 hkl hgood hP2'
      dsimp only at c0 c1' c2 c3
      have k0 : (0 : Int) ≤ (k : Int) := by omega
      have k1 : (k : Int) < (n : Int) := by omega
      have hbelx : Hid (Below w.heap.size w (wr.alloc (.cells #[.int .i64 es, .int .i64 et, .int .u8 ek, .int .u64 ev] 37))) := hbel.out.alloc hsz.out _
      have hX := Blk.new wr 37 #[.int .i64 es, .int .i64 et, .int .u8 ek, .int .u64 ev]
      rcases hst with ⟨hkq, hos2⟩ | ⟨hkq, j, s, hj, hs, hst, hos2⟩ | ⟨hkq, hkq2, hos2⟩
      · dsimp only at hkq hos2
        subst hkq
        have hS2 := Lib.hid hos2
        clear hos2
        obtain ⟨w2, kv2, clk2, hput, hM2, hg2, hkv⟩ := run_put uMapI uInt (hM.out.below ((Below.refl _ _).alloc (Nat.le_refl _) (.cells #[.int .i64 es, .int .i64 et, .int .u8 1, .int .u64 ev] 37))) et (.int .i64 (os.length : Nat))
        have hX2 := hX.grown hg2 (fun h => by cases h; have := hMlt.out; omega)
        have hown2 : Hid (w2.ownsRow (M + 1) 43 4 (.slice A1 os.length c1) os.length (secs os)) := (hown.out.alloc _).kept hg2 (by
          rcases hv : (Value.slice A1 os.length c1).ownBlock with _ | g'
          · exact .inl rfl
          · exact .inr (fun h => by have := (hown.out.lt g' hv).1; cases h; omega))
        have hbel2 : Hid (Below w.heap.size w w2) := hbelx.out.grown hg2 (by have := hsz.out; simp; omega) (fun q hq => by cases hq; exact hMw.out)
        have x0 := hX2.cell 0
        have x1 := hX2.cell 1
        have x2 := hX2.cell 2
        have x3 := hX2.cell 3
        have y1 := hX.cell 1
        have y2 := hX.cell 2
        simp only [List.getElem?_toArray, List.getElem?_cons_zero, List.getElem?_cons_succ] at x0 x1 x2 x3 y1 y2
        have hbeg := sections1_any ⟨es, et, 1, ev⟩ w2
        have hszx := Lib.hid hg2.size
        clear hX hX2 hg2
        unfold evV seV at hbeg
        dsimp only at hbeg
        go_wp2_with fail
        refine hbeg.mono ?_
        rintro e w3 ⟨rfl, hb3⟩
        have hown3 : Hid (w3.ownsRow (M + 1) 43 4 (.slice A1 os.length c1) os.length (secs os)) := own_below hown2.out hb3
        have hM3 : IsMapOf w3 M .i64 kv2 clk2 := hM2.below hb3
        have hs2 := Lib.hid hbel2.out.size
        have hbel3 : Hid (Below w.heap.size w w3) := hbel2.out.trans (hb3.mono hs2.out)
        have hsz3 : Hid (M + 1 ≤ w3.heap.size) := (Array.getElem?_eq_some_iff.1 hM3).1
        have hsz3' : Hid (w.heap.size ≤ w3.heap.size) := hbel3.out.size
        clear hbeg hown2 hbel2 hM2 hput
        go_wp2_with (at_builtin; refine wpList_append_any _ rfl (.tmp 43) (.tmp 47) 25 rfl (M + 1) 43 i0 _ 4 32 Try.underlying25 hi0 hz0 hz1 hz2 rfl (by decide) (.slice A1 os.length c1) os.length (secs os) rfl (hown3.out.alloc _) (w3.heap.size + 1) (some ⟨w3.heap.size, 0, none⟩) 1 1 (seC (⟨et, ev, es, -1⟩ : Sec)) rfl ((reads_at w3 _ (seC (⟨et, ev, es, -1⟩ : Sec)) 1 _ rfl rfl).more (by simp)) (seC_one _) (by unfold maxLen; omega) (by omega) (by have := hsz3.out; simp; omega) ?_; intro v1 w4 hown1 hg1 hat1)
        have hown4 : Hid (w4.ownsRow (M + 1) 43 4 v1 (os ++ [(⟨et, ev, es, -1⟩ : Sec)]).length (secs (os ++ [(⟨et, ev, es, -1⟩ : Sec)]))) := by
          unfold Hid
          rw [List.length_append]
          exact own_snocS hown1

        have hbel4 : Hid (Below w.heap.size w w4) := (hbel3.out.alloc hsz3'.out _).grown hg1 (by have := hsz3'.out; simp; omega) (fun q hq => by have := (hown3.out.lt q hq).1; have := hMw.out; omega)
        have hM4 : Hid (IsMapOf w4 M .i64 kv2 clk2) := Lib.hid ((hM3.below ((Below.refl _ _).alloc (Nat.le_refl _) _)).grown hg1 (fun h => by have := (hown3.out.lt M h.symm).1; omega))
        have hMI2 : Hid (MapIs kv2 (os ++ [⟨et, ev, es, -1⟩])) := Lib.hid (mapIs_put (s := ⟨et, ev, es, -1⟩) hMI.out hkv)
        clear hown1 hg1 hat1 hb3 hkv hM3
        go_wp2_with fail
        go_roundg g
        case measure => omega
        case rel => exact ⟨k + 1, clk2, kv2, os ++ [⟨et, ev, es, -1⟩], by omega, by go_num, by simp; omega, Lib.hid hS2.out.symm, hP2, hMI2, hM4, hown4, hbel4⟩
      · dsimp only at hkq hos2 hj hst
        subst hkq
        obtain ⟨gB, rfl, hgM, hglt⟩ := own_at hown.out (by have := (List.getElem?_eq_some_iff.1 hs).1; omega)
        have hjl : j < os.length := (List.getElem?_eq_some_iff.1 hs).1
        have j0 : (0 : Int) ≤ (j : Int) := by omega
        have j1 : (j : Int) < (os.length : Int) := by omega
        have hqq : ((2 : Int) == 1) = false := by decide
        have hS2 : Hid (os.set j { s with exit := es } = secsK 1 (l.take (k + 1))) := hos2.symm
        have hMI2 : Hid (MapIs kv (os.set j { s with exit := es })) := mapIs_set hMI.out hs rfl
        have hset := Lib.hid (secs_set os j s es hs)
        have hsx := Lib.hid (secs_get hs)
        obtain ⟨W, hW⟩ : ∃ W : World, W = wr.alloc (.cells #[.int .i64 es, .int .i64 et, .int .u8 2, .int .u64 ev] 37) := ⟨_, rfl⟩
        have hownW : Hid (W.ownsRow (M + 1) 43 4 (.slice (some ⟨gB, 0, none⟩) os.length c1) os.length (secs os)) := by rw [hW]; exact hown.out.alloc _
        have hMW : Hid (IsMapOf W M .i64 kv clk) := by rw [hW]; exact hM.out.below ((Below.refl _ _).alloc (Nat.le_refl _) _)
        have hbelW : Hid (Below w.heap.size w W) := by rw [hW]; exact hbelx.out
        have hXW : Blk W wr.heap.size 37 #[.int .i64 es, .int .i64 et, .int .u8 2, .int .u64 ev] := by rw [hW]; exact hX
        have hlook := map_look (w := W.drew) hMW.out hMI.out hj
        have hcell : W.drew.cell? ⟨gB, j * 4 + 3, none⟩ = some (.int .i64 s.exit) := (hownW.out.drew.cellAt (j * 4 + 3) (by omega)).trans hsx.out
        have hend := sections2_any gB (j * 4) es s.exit W.drew hcell (hownW.out.drew.frozenAt _)
        have y2 := hX.cell 2
        have z0 := hXW.cell 0
        have z1 := hXW.cell 1
        have z2 := hXW.cell 2
        simp only [List.getElem?_toArray, List.getElem?_cons_zero, List.getElem?_cons_succ] at y2 z0 z1 z2
        clear hj hs hos2 hst hX hXW hcell hsx
        go_wp2_with fail
        rw [← hW]
        clear hW y2
        go_still_tail 9, (by kernel_rfl)
        change wpList _ _ _ _ _ W.drew
        go_wp2_with fail
        refine hend.mono ?_
        rintro e w6 ⟨rfl, rfl⟩
        have hst6 := hownW.out.drew.stored (j * 4 + 3) (.int .i64 es)
        have hown6 : Hid ((W.drew.setCell ⟨gB, j * 4 + 3, none⟩ (.int .i64 es)).ownsRow (M + 1) 43 4 (.slice (some ⟨gB, 0, none⟩) os.length c1) (os.set j { s with exit := es }).length (secs (os.set j { s with exit := es }))) := by
          unfold Hid
          rw [hset.out, List.length_set]
          exact hst6.1
        have hM6 : Hid (IsMapOf (W.drew.setCell ⟨gB, j * 4 + 3, none⟩ (.int .i64 es)) M .i64 kv clk) := Lib.hid (IsMapOf.grown (w := W.drew) hMW.out hst6.2 (fun h => by cases h; omega))
        have hbel6 : Hid (Below w.heap.size w (W.drew.setCell ⟨gB, j * 4 + 3, none⟩ (.int .i64 es))) := hbelW.out.drew.setCell (by have := hMw.out; show w.heap.size ≤ gB; omega) _
        clear hst6 hlook hend
        go_wp2_with fail
        go_roundg g
        case measure => omega
        case rel => exact ⟨k + 1, clk, kv, os.set j { s with exit := es }, by omega, by go_num, by simp; omega, hS2, hP2, hMI2, hM6, by rw [List.length_set] at hown6 ⊢; exact hown6, hbel6⟩
      · dsimp only at hkq hkq2 hos2
        have hS2 : Hid (os = secsK 1 (l.take (k + 1))) := hos2.symm
        have hkq' : (ek == 1) = false := by simpa using hkq
        have hkq2' : (ek == 2) = false := by simpa using hkq2
        have hM2 : Hid (IsMapOf (wr.alloc (.cells #[.int .i64 es, .int .i64 et, .int .u8 ek, .int .u64 ev] 37)) M .i64 kv clk) := Lib.hid (hM.out.below ((Below.refl _ _).alloc (Nat.le_refl _) _))
        have hown2 : Hid ((wr.alloc (.cells #[.int .i64 es, .int .i64 et, .int .u8 ek, .int .u64 ev] 37)).ownsRow (M + 1) 43 4 (.slice A1 os.length c1) os.length (secs os)) := hown.out.alloc _
        have y2 := hX.cell 2
        simp only [List.getElem?_toArray, List.getElem?_cons_zero, List.getElem?_cons_succ] at y2
        clear hkq hkq2 hos2 hX
        go_wp2_with fail
        go_roundg g
        case measure => omega
        case rel => exact ⟨k + 1, clk, kv, os, by omega, by go_num, by omega, hS2, hP2, hMI, hM2, hown2, hbelx⟩

theorem sections_any (l : List Ev) (A : Option Addr) (n c : Nat) (w : World) (hr : Hid (Reads w w.heap.size 4 A n (evs l))) (hn : n ≤ 65536) :
    Calls Try.prog 17 #[.slice A n c] w (SecEnd 43 1 l w) := by
  go_enter Try.func17, Try.ntmps17
  go_wp2_with fail
  refine (pairsSection_any l A n c _ hr hn).mono ?_
  rintro e w1 (⟨v, hf, rfl, ho, hb⟩ | ⟨hf, rfl, hb⟩)
  · have hF := Lib.hid hf
    have hO := Lib.hid ho
    have hB := Lib.hid hb
    clear hf ho hb
    go_wp2_with fail
    go_ret2
    exact .inl ⟨_, hF.out, rfl, hO.out, hB.out⟩
  · have hF := Lib.hid hf
    have hB := Lib.hid hb
    clear hf hb
    go_wp2_with fail
    go_ret2
    exact .inr ⟨hF.out, rfl, hB.out⟩

set_option maxRecDepth 100000 in
set_option maxHeartbeats 8000000 in
theorem pairsWait_any (l : List Ev) (A : Option Addr) (n c : Nat) (w : World) (hr : Hid (Reads w w.heap.size 4 A n (evs l))) (hn : n ≤ 65536) :
    Calls Try.prog 51 #[.slice A n c, .int .u8 3, .int .u8 4, .func (.func 52) #[] #[], .func (.func 53) #[] #[]] w (SecEnd 74 3 l w) := by
  have hl := Lib.hid (evs_n hr.out)
  have hmm := @run_makeMap Try.prog
  obtain ⟨i0, hi0, hz0, hz1, hz2⟩ := info_parts infoWait
  go_enter Try.func51, Try.ntmps51
  go_wp2_with fail
  refine (check_any l A n c _ hr hn).mono ?_
  rintro e w1 ⟨a, er, rfl, hck, hb⟩
  have hb1 := Lib.hid hb
  clear hb
  rcases ckIs_cases hck with ⟨rfl, hbad⟩ | ⟨rfl, hfine⟩
  · have hB := Lib.hid hbad
    clear hck hbad
    go_wp2_with fail
    go_ret2
    exact .inr ⟨hB.out, rfl, hb1.out⟩
  have hF := Lib.hid hfine
  clear hck hfine
  have hMw : Hid (w.heap.size ≤ w1.heap.size) := hb1.out.size
  obtain ⟨M, hM0⟩ : ∃ M, M = w1.heap.size := ⟨_, rfl⟩
  rw [← hM0] at hMw
  have hm0 : IsMapOf (w1.alloc (.map #[] 0)) M .i64 [] 0 := by unfold IsMapOf; rw [hM0]; exact heap_alloc_new w1 _
  have hbm : Hid (Below w.heap.size w (w1.alloc (.map #[] 0))) := hb1.out.alloc (by have := hMw.out; omega) _
  go_wp2_with fail
  rw [← hM0]
  clear hM0
  go_loopg [14, 29] n (fun g v i wr => ∃ (k clk : Nat) (kv : List (Int × Value × Nat)) (os : List Sec), k + g = n ∧ i = .int .i64 k ∧ os.length ≤ k ∧ Hid (os = secsK 3 (l.take k)) ∧ Hid (PInv 3 l k) ∧ Hid (MapIs kv os) ∧ Hid (IsMapOf wr M .i64 kv clk) ∧ Hid (wr.ownsRow (M + 1) 74 4 v os.length (secs os)) ∧ Hid (Below w.heap.size w wr))
  case atStart => exact ⟨0, 0, [], [], by omega, rfl, Nat.le_refl _, by unfold Hid; simp [secsK], pinv_zero _ (by decide) l, mapIs_nil, hm0, World.ownsRow_nil _ _ _ _, hbm⟩
  case round =>
    obtain ⟨k, clk, kv, os, hk, rfl, hol, hos, hP, hMI, hM, hown, hbel⟩ := hrel
    obtain ⟨A1, c1, rfl, hc1, hc1'⟩ := own_form hown.out
    cases gk with
    | zero =>
      obtain rfl : k = n := by omega
      have hz : Hid (os = secsK 3 l) := by
        unfold Hid
        rw [hos.out, List.take_of_length_le (by rw [hl.out]; exact Nat.le_refl _)]
      go_wp2_with fail
      go_ret2
      exact .inl ⟨_, hF.out, rfl, by rw [← hz.out]; exact own_base hown.out (by have := hMw.out; omega), hbel.out⟩
    | succ g =>
      obtain ⟨b, o, rfl, hbB⟩ := reads_head hr.out (by omega) (by decide)
      have hsz := Lib.hid hbel.out.size
      have hMlt : Hid (M < wr.heap.size) := (Array.getElem?_eq_some_iff.1 hM.out).1
      have hbw : b < wr.heap.size := by have := hsz.out; omega
      obtain ⟨⟨es, et, ek, ev⟩, he0, c0, c1', c2, c3⟩ := ev_at (hr.out.below hbel.out) (show k < n by omega)
      have hkl : k < l.length := by rw [hl.out]; omega
      have hgood := hF.out k _ hkl he0
      have hps := pstep (q := 3) (by decide) he0 (fun j e hj he => hF.out j e (by omega) he) hgood hP.out
      obtain ⟨hP2', hst⟩ := hps
      have hP2 := Lib.hid hP2'
      rw [← hos.out] at hst
      clear he0 hkl hgood hP2'
      dsimp only at c0 c1' c2 c3
      have k0 : (0 : Int) ≤ (k : Int) := by omega
      have k1 : (k : Int) < (n : Int) := by omega
      have hbelx : Hid (Below w.heap.size w (wr.alloc (.cells #[.int .i64 es, .int .i64 et, .int .u8 ek, .int .u64 ev] 37))) := hbel.out.alloc hsz.out _
      have hX := Blk.new wr 37 #[.int .i64 es, .int .i64 et, .int .u8 ek, .int .u64 ev]
      rcases hst with ⟨hkq, hos2⟩ | ⟨hkq, j, s, hj, hs, hst, hos2⟩ | ⟨hkq, hkq2, hos2⟩
      · dsimp only at hkq hos2
        subst hkq
        have hS2 := Lib.hid hos2
        clear hos2
        obtain ⟨w2, kv2, clk2, hput, hM2, hg2, hkv⟩ := run_put uMapI uInt (hM.out.below ((Below.refl _ _).alloc (Nat.le_refl _) (.cells #[.int .i64 es, .int .i64 et, .int .u8 3, .int .u64 ev] 37))) et (.int .i64 (os.length : Nat))
        have hX2 := hX.grown hg2 (fun h => by cases h; have := hMlt.out; omega)
        have hown2 : Hid (w2.ownsRow (M + 1) 74 4 (.slice A1 os.length c1) os.length (secs os)) := (hown.out.alloc _).kept hg2 (by
          rcases hv : (Value.slice A1 os.length c1).ownBlock with _ | g'
          · exact .inl rfl
          · exact .inr (fun h => by have := (hown.out.lt g' hv).1; cases h; omega))
        have hbel2 : Hid (Below w.heap.size w w2) := hbelx.out.grown hg2 (by have := hsz.out; simp; omega) (fun q hq => by cases hq; exact hMw.out)
        have x0 := hX2.cell 0
        have x1 := hX2.cell 1
        have x2 := hX2.cell 2
        have x3 := hX2.cell 3
        have y1 := hX.cell 1
        have y2 := hX.cell 2
        simp only [List.getElem?_toArray, List.getElem?_cons_zero, List.getElem?_cons_succ] at x0 x1 x2 x3 y1 y2
        have hbeg := waits1_any ⟨es, et, 3, ev⟩ w2
        have hszx := Lib.hid hg2.size
        clear hX hX2 hg2
        unfold evV seV at hbeg
        dsimp only at hbeg
        go_wp2_with fail
        refine hbeg.mono ?_
        rintro e w3 ⟨rfl, hb3⟩
        have hown3 : Hid (w3.ownsRow (M + 1) 74 4 (.slice A1 os.length c1) os.length (secs os)) := own_below hown2.out hb3
        have hM3 : IsMapOf w3 M .i64 kv2 clk2 := hM2.below hb3
        have hs2 := Lib.hid hbel2.out.size
        have hbel3 : Hid (Below w.heap.size w w3) := hbel2.out.trans (hb3.mono hs2.out)
        have hsz3 : Hid (M + 1 ≤ w3.heap.size) := (Array.getElem?_eq_some_iff.1 hM3).1
        have hsz3' : Hid (w.heap.size ≤ w3.heap.size) := hbel3.out.size
        clear hbeg hown2 hbel2 hM2 hput
        go_wp2_with (at_builtin; refine wpList_append_any _ rfl (.tmp 43) (.tmp 47) 70 rfl (M + 1) 74 i0 _ 4 32 Try.underlying70 hi0 hz0 hz1 hz2 rfl (by decide) (.slice A1 os.length c1) os.length (secs os) rfl (hown3.out.alloc _) (w3.heap.size + 1) (some ⟨w3.heap.size, 0, none⟩) 1 1 (seC (⟨et, ev, es, -1⟩ : Sec)) rfl ((reads_at w3 _ (seC (⟨et, ev, es, -1⟩ : Sec)) 1 _ rfl rfl).more (by simp)) (seC_one _) (by unfold maxLen; omega) (by omega) (by have := hsz3.out; simp; omega) ?_; intro v1 w4 hown1 hg1 hat1)
        have hown4 : Hid (w4.ownsRow (M + 1) 74 4 v1 (os ++ [(⟨et, ev, es, -1⟩ : Sec)]).length (secs (os ++ [(⟨et, ev, es, -1⟩ : Sec)]))) := by
          unfold Hid
          rw [List.length_append]
          exact own_snocS hown1

        have hbel4 : Hid (Below w.heap.size w w4) := (hbel3.out.alloc hsz3'.out _).grown hg1 (by have := hsz3'.out; simp; omega) (fun q hq => by have := (hown3.out.lt q hq).1; have := hMw.out; omega)
        have hM4 : Hid (IsMapOf w4 M .i64 kv2 clk2) := Lib.hid ((hM3.below ((Below.refl _ _).alloc (Nat.le_refl _) _)).grown hg1 (fun h => by have := (hown3.out.lt M h.symm).1; omega))
        have hMI2 : Hid (MapIs kv2 (os ++ [⟨et, ev, es, -1⟩])) := Lib.hid (mapIs_put (s := ⟨et, ev, es, -1⟩) hMI.out hkv)
        clear hown1 hg1 hat1 hb3 hkv hM3
        go_wp2_with fail
        go_roundg g
        case measure => omega
        case rel => exact ⟨k + 1, clk2, kv2, os ++ [⟨et, ev, es, -1⟩], by omega, by go_num, by simp; omega, Lib.hid hS2.out.symm, hP2, hMI2, hM4, hown4, hbel4⟩
      · dsimp only at hkq hos2 hj hst
        subst hkq
        obtain ⟨gB, rfl, hgM, hglt⟩ := own_at hown.out (by have := (List.getElem?_eq_some_iff.1 hs).1; omega)
        have hjl : j < os.length := (List.getElem?_eq_some_iff.1 hs).1
        have j0 : (0 : Int) ≤ (j : Int) := by omega
        have j1 : (j : Int) < (os.length : Int) := by omega
        have hqq : ((4 : Int) == 3) = false := by decide
        have hS2 : Hid (os.set j { s with exit := es } = secsK 3 (l.take (k + 1))) := hos2.symm
        have hMI2 : Hid (MapIs kv (os.set j { s with exit := es })) := mapIs_set hMI.out hs rfl
        have hset := Lib.hid (secs_set os j s es hs)
        have hsx := Lib.hid (secs_get hs)
        obtain ⟨W, hW⟩ : ∃ W : World, W = wr.alloc (.cells #[.int .i64 es, .int .i64 et, .int .u8 4, .int .u64 ev] 37) := ⟨_, rfl⟩
        have hownW : Hid (W.ownsRow (M + 1) 74 4 (.slice (some ⟨gB, 0, none⟩) os.length c1) os.length (secs os)) := by rw [hW]; exact hown.out.alloc _
        have hMW : Hid (IsMapOf W M .i64 kv clk) := by rw [hW]; exact hM.out.below ((Below.refl _ _).alloc (Nat.le_refl _) _)
        have hbelW : Hid (Below w.heap.size w W) := by rw [hW]; exact hbelx.out
        have hXW : Blk W wr.heap.size 37 #[.int .i64 es, .int .i64 et, .int .u8 4, .int .u64 ev] := by rw [hW]; exact hX
        have hlook := map_look (w := W.drew) hMW.out hMI.out hj
        have hcell : W.drew.cell? ⟨gB, j * 4 + 3, none⟩ = some (.int .i64 s.exit) := (hownW.out.drew.cellAt (j * 4 + 3) (by omega)).trans hsx.out
        have hend := waits2_any gB (j * 4) es s.exit W.drew hcell (hownW.out.drew.frozenAt _)
        have y2 := hX.cell 2
        have z0 := hXW.cell 0
        have z1 := hXW.cell 1
        have z2 := hXW.cell 2
        simp only [List.getElem?_toArray, List.getElem?_cons_zero, List.getElem?_cons_succ] at y2 z0 z1 z2
        clear hj hs hos2 hst hX hXW hcell hsx
        go_wp2_with fail
        rw [← hW]
        clear hW y2
        go_still_tail 9, (by kernel_rfl)
        change wpList _ _ _ _ _ W.drew
        go_wp2_with fail
        refine hend.mono ?_
        rintro e w6 ⟨rfl, rfl⟩
        have hst6 := hownW.out.drew.stored (j * 4 + 3) (.int .i64 es)
        have hown6 : Hid ((W.drew.setCell ⟨gB, j * 4 + 3, none⟩ (.int .i64 es)).ownsRow (M + 1) 74 4 (.slice (some ⟨gB, 0, none⟩) os.length c1) (os.set j { s with exit := es }).length (secs (os.set j { s with exit := es }))) := by
          unfold Hid
          rw [hset.out, List.length_set]
          exact hst6.1
        have hM6 : Hid (IsMapOf (W.drew.setCell ⟨gB, j * 4 + 3, none⟩ (.int .i64 es)) M .i64 kv clk) := Lib.hid (IsMapOf.grown (w := W.drew) hMW.out hst6.2 (fun h => by cases h; omega))
        have hbel6 : Hid (Below w.heap.size w (W.drew.setCell ⟨gB, j * 4 + 3, none⟩ (.int .i64 es))) := hbelW.out.drew.setCell (by have := hMw.out; show w.heap.size ≤ gB; omega) _
        clear hst6 hlook hend
        go_wp2_with fail
        go_roundg g
        case measure => omega
        case rel => exact ⟨k + 1, clk, kv, os.set j { s with exit := es }, by omega, by go_num, by simp; omega, hS2, hP2, hMI2, hM6, by rw [List.length_set] at hown6 ⊢; exact hown6, hbel6⟩
      · dsimp only at hkq hkq2 hos2
        have hS2 : Hid (os = secsK 3 (l.take (k + 1))) := hos2.symm
        have hkq' : (ek == 3) = false := by simpa using hkq
        have hkq2' : (ek == 4) = false := by simpa using hkq2
        have hM2 : Hid (IsMapOf (wr.alloc (.cells #[.int .i64 es, .int .i64 et, .int .u8 ek, .int .u64 ev] 37)) M .i64 kv clk) := Lib.hid (hM.out.below ((Below.refl _ _).alloc (Nat.le_refl _) _))
        have hown2 : Hid ((wr.alloc (.cells #[.int .i64 es, .int .i64 et, .int .u8 ek, .int .u64 ev] 37)).ownsRow (M + 1) 74 4 (.slice A1 os.length c1) os.length (secs os)) := hown.out.alloc _
        have y2 := hX.cell 2
        simp only [List.getElem?_toArray, List.getElem?_cons_zero, List.getElem?_cons_succ] at y2
        clear hkq hkq2 hos2 hX
        go_wp2_with fail
        go_roundg g
        case measure => omega
        case rel => exact ⟨k + 1, clk, kv, os, by omega, by go_num, by omega, hS2, hP2, hMI, hM2, hown2, hbelx⟩

theorem waits_any (l : List Ev) (A : Option Addr) (n c : Nat) (w : World) (hr : Hid (Reads w w.heap.size 4 A n (evs l))) (hn : n ≤ 65536) :
    Calls Try.prog 45 #[.slice A n c] w (SecEnd 74 3 l w) := by
  go_enter Try.func45, Try.ntmps45
  go_wp2_with fail
  refine (pairsWait_any l A n c _ hr hn).mono ?_
  rintro e w1 (⟨v, hf, rfl, ho, hb⟩ | ⟨hf, rfl, hb⟩)
  · have hF := Lib.hid hf
    have hO := Lib.hid ho
    have hB := Lib.hid hb
    clear hf ho hb
    go_wp2_with fail
    go_ret2
    exact .inl ⟨_, hF.out, rfl, hO.out, hB.out⟩
  · have hF := Lib.hid hf
    have hB := Lib.hid hb
    clear hf hb
    go_wp2_with fail
    go_ret2
    exact .inr ⟨hF.out, rfl, hB.out⟩
end Go.Proofs.Ythkppihfdlmhgaa
