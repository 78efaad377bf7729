/- event.Check walked. -/
import Derived.Test.YthkppihfdlmhgaaRules
import Derived.Test.YthkppihfdlmhgaaCkE
import Derived.StillTailTactics
import Derived.Deep.LoopGhost
namespace Go.Proofs.Ythkppihfdlmhgaa
open Go Go.RowKit
set_option linter.unusedVariables false

/-- The threads at the start. -/
def thr0 : Array Value := ((List.range 64).flatMap fun _ => [Value.int .u8 0, Value.int .u64 0]).toArray
theorem zThr (w : World) : (zeroValue 79).run Try.prog w = .ok (.agg thr0) w := by kernel_rfl
theorem thr0_at : ThrAt thr0 (stS []) := by
  intro t ht
  have h := fun j hj => flat_get (fun _ : Nat => [Value.int .u8 0, Value.int .u64 0]) 2 (fun _ => rfl) (List.range 64) t t j (List.getElem?_range ht) hj
  unfold thr0
  rw [List.getElem?_toArray, List.getElem?_toArray]
  have h0 := h 0 (by decide)
  have h1 := h 1 (by decide)
  rw [Nat.add_zero] at h0
  exact ⟨h0, h1⟩

set_option maxRecDepth 100000 in
set_option maxHeartbeats 8000000 in
theorem check_any (l : List Ev) (A : Option Addr) (n c : Nat) (w : World) (hr : Hid (Reads w w.heap.size 4 A n (evs l))) (hn : n ≤ 65536) :
    Calls Try.prog 31 #[.slice A n c] w (CkEnd l w) := by
  have hl := Lib.hid (evs_n hr.out)
  go_enter Try.func31, Try.ntmps31
  have hz := zThr w
  go_wp2_with fail
  clear hz
  refine (rules_any _).mono ?_
  rintro e w1 ⟨rfl, hm, hb⟩
  have hB1 := Lib.hid ((Blk.new w 79 thr0).below hb (by simp))
  have hM1 : Hid (IsMapOf w1 (w.heap.size + 1) .u8 rulesKv 4) := by rw [World.size_alloc] at hm; exact hm
  have hb1 : Hid (Below w.heap.size w w1) := ((Below.refl _ _).alloc (Nat.le_refl _) _).trans (hb.mono (by simp))
  clear hb hm
  go_wp2_with fail
  go_loopg [14] n (fun g i wr => ∃ (k : Nat) (cs : Array Value), k + g = n ∧ i = .int .i64 k ∧ Hid (FineTo l k) ∧ Hid (Blk wr w.heap.size 79 cs) ∧ Hid (ThrAt cs (stS (l.take k))) ∧ Hid (IsMapOf wr (w.heap.size + 1) .u8 rulesKv 4) ∧ Hid (Below w.heap.size w wr))
  case atStart => exact ⟨0, thr0, by omega, rfl, fineTo_zero l, hB1.out, thr0_at, hM1.out, hb1.out⟩
  case round =>
    obtain ⟨k, cs, hk, rfl, hF, hB, hS, hM, hbel⟩ := hrel
    cases gk with
    | zero =>
      obtain rfl : k = n := by omega
      have hck := Lib.hid (ckIs_end hF.out (by rw [hl.out]; exact Nat.le_refl _))
      go_wp2_with fail
      go_ret2
      exact ⟨0, 0, rfl, hck.out, hbel.out⟩
    | succ g =>
      obtain ⟨b, o, rfl, hbB⟩ := reads_head hr.out (by omega) (by decide)
      obtain ⟨⟨es, et, ek, ev⟩, he0, c0, c1, c2, c3⟩ := ev_at (hr.out.below hbel.out) (show k < n by omega)
      have he := Lib.hid he0
      dsimp only at c0 c1 c2 c3
      have k0 : (0 : Int) ≤ (k : Int) := by omega
      have k1 : (k : Int) < (n : Int) := by omega
      have hsz := Lib.hid hbel.out.size
      have hbelx : Hid (Below w.heap.size w (wr.alloc (.cells #[.int .i64 es, .int .i64 et, .int .u8 ek, .int .u64 ev] 37))) := hbel.out.alloc hsz.out _
      have hM1' : IsMapOf (wr.alloc (.cells #[.int .i64 es, .int .i64 et, .int .u8 ek, .int .u64 ev] 37)) (w.heap.size + 1) .u8 rulesKv 4 := hM.out.below ((Below.refl _ _).alloc (Nat.le_refl _) _)
      have hX := Blk.new wr 37 #[.int .i64 es, .int .i64 et, .int .u8 ek, .int .u64 ev]
      clear he0
      by_cases hkk : 1 ≤ ek ∧ ek ≤ 4
      · have hk4 : ek = 1 ∨ ek = 2 ∨ ek = 3 ∨ ek = 4 := by omega
        rcases hk4 with rfl | rfl | rfl | rfl
        · have hlook := rules_look hM1' 1
          rw [show ruleV 1 = .func (.func 46) #[] #[] from rfl, show decide ((1 : Int) ≤ 1 ∧ (1 : Int) ≤ 4) = true from rfl] at hlook
          by_cases hs : es < 0
          · have hbad : goodE l k ⟨es, et, 1, ev⟩ = false := by unfold goodE rightE; simp; omega
            have hck := Lib.hid (ckIs_bad hF.out he.out hbad)
            clear hbad
            go_wp2_with fail
            go_ret2
            exact ⟨_, _, rfl, hck.out, hbelx.out⟩
          by_cases ht0 : et < 0
          · have hbad : goodE l k ⟨es, et, 1, ev⟩ = false := by unfold goodE rightE; simp; omega
            have hck := Lib.hid (ckIs_bad hF.out he.out hbad)
            clear hbad
            go_wp2_with fail
            go_ret2
            exact ⟨_, _, rfl, hck.out, hbelx.out⟩
          by_cases ht1 : 64 ≤ et
          · have hbad : goodE l k ⟨es, et, 1, ev⟩ = false := by unfold goodE rightE; simp; omega
            have hck := Lib.hid (ckIs_bad hF.out he.out hbad)
            clear hbad
            go_wp2_with fail
            go_ret2
            exact ⟨_, _, rfl, hck.out, hbelx.out⟩
          obtain ⟨t, rfl⟩ := Int.eq_ofNat_of_zero_le (show 0 ≤ et by omega)
          have ht : t < 64 := by omega
          have hright : rightE ⟨es, t, 1, ev⟩ = true := by unfold rightE; simp; omega
          obtain ⟨q0, q1⟩ := hS.out t ht
          have x0 := hX.cell 0
          have x1 := hX.cell 1
          have x2 := hX.cell 2
          have x3 := hX.cell 3
          have hbw : b < wr.heap.size := by have := hsz.out; omega
          go_wp2_with fail
          clear hlook
          by_cases hk0 : k = 0
          · have hd1 : decide ((0 : Int) < (k : Int)) = false := by simp; omega
            have hd2 : decide (0 < k) = false := by simp; omega
            have hbeh : behind (prevE l k) ⟨es, t, 1, ev⟩ = true := by unfold prevE; rw [if_pos hk0]; rfl
            clear hk0
            go_quiet (fail)
            go_wp2_with fail
            obtain ⟨W, hW⟩ : ∃ W : World, W = ((wr.alloc (.cells #[.int .i64 es, .int .i64 t, .int .u8 1, .int .u64 ev] 37)).drewN nq) := ⟨_, rfl⟩
            rw [← hW]
            have hBv : Blk W.drew w.heap.size 79 cs := by rw [hW]; exact (((hB.out.alloc _).drewN nq)).drew
            have hMv : IsMapOf W.drew (w.heap.size + 1) .u8 rulesKv 4 := by rw [hW]; exact hM1'
            have hbv : Hid (Below w.heap.size w W.drew) := by rw [hW]; exact Below.drew (below_drewN hbelx.out nq)
            have hXv : Blk W wr.heap.size 37 #[.int .i64 es, .int .i64 t, .int .u8 1, .int .u64 ev] := by rw [hW]; exact hX.drewN nq
            have z0 := hXv.cell 0
            have z1 := hXv.cell 1
            have z2 := hXv.cell 2
            have z3 := hXv.cell 3
            clear hW hXv x0 x1 x2 x3 hX
            have hrule : Calls Try.prog 46 #[.pointer (some ⟨w.heap.size, t * 2, none⟩), .agg #[.int .i64 es, .int .i64 t, .int .u8 1, .int .u64 ev]] W.drew (RuleEnd (okS (stS (l.take k) t) ⟨es, t, 1, ev⟩) w.heap.size (t * 2) cs 1 ev W.drew) := enter_any ⟨es, t, 1, ev⟩ w.heap.size (t * 2) cs _ _ W.drew hBv q0 q1
            go_still_tail 5, (by kernel_rfl)
            change wpList _ _ _ _ _ W.drew
            cases hok : okS (stS (l.take k) t) ⟨es, t, 1, ev⟩ with
            | true =>
              rw [hok] at hrule
              have hgood : goodE l k ⟨es, t, 1, ev⟩ = true := by
                unfold goodE
                rw [hright, hbeh, hok]
                rfl
              clear hok hbeh hright
              go_wp2_with fail
              refine hrule.mono ?_
              rintro e w6 ⟨rfl, hB6, hg6⟩
              have hs6 : w.heap.size + 1 < W.drew.heap.size := (Array.getElem?_eq_some_iff.1 hMv).1
              have hM6 : IsMapOf w6 (w.heap.size + 1) .u8 rulesKv 4 := (hg6.block (w.heap.size + 1) (Array.getElem?_eq_some_iff.1 hMv).1 (by simp)).trans hMv
              have hbel6 : Hid (Below w.heap.size w w6) := hbv.out.grown hg6 (by omega) (fun k e => by cases e; exact Nat.le_refl _)
              have hS6 : Hid (ThrAt ((cs.setIfInBounds (t * 2) (.int .u8 1)).setIfInBounds (t * 2 + 1) (.int .u64 ev)) (stS (l.take (k + 1)))) := thrAt_set hS.out ht (by rw [stS_take he.out]; unfold upS; rw [if_pos rfl]; rfl) (fun u hu => by rw [stS_take he.out]; unfold upS; rw [if_neg hu])
              have hF6 : Hid (FineTo l (k + 1)) := fineTo_step hF.out he.out hgood
              clear hrule hBv hMv hbv hg6 hgood
              go_wp2_with fail
              go_roundg g
              case measure => omega
              case rel => exact ⟨k + 1, _, by omega, by go_num, hF6, hB6, hS6, hM6, hbel6⟩
            | false =>
              rw [hok] at hrule
              have hbad : goodE l k ⟨es, t, 1, ev⟩ = false := by
                unfold goodE
                rw [hright, hbeh, hok]
                rfl
              clear hok hbeh hright
              have hck := Lib.hid (ckIs_bad hF.out he.out hbad)
              clear hbad
              go_wp2_with fail
              refine hrule.mono ?_
              rintro e w6 ⟨rfl, hB6, hg6⟩
              have hs6 : w.heap.size + 1 < W.drew.heap.size := (Array.getElem?_eq_some_iff.1 hMv).1
              have hbel6 : Hid (Below w.heap.size w w6) := hbv.out.grown hg6 (by omega) (fun k e => by cases e; exact Nat.le_refl _)
              clear hrule hBv hMv hbv hg6
              go_wp2_with fail
              go_ret2
              exact ⟨_, _, rfl, hck.out, hbel6.out⟩
          · obtain ⟨m, rfl⟩ : ∃ m, k = m + 1 := ⟨k - 1, by omega⟩
            clear hk0
            obtain ⟨⟨ps, pt, pk, pv⟩, hp, d0, d1, d2, d3⟩ := ev_at (hr.out.below hbel.out) (show m < n by omega)
            dsimp only at d0 d1 d2 d3
            have im : ((m + 1 : Nat) : Int) - 1 = (m : Int) := by omega
            have iw : IntKind.i64.wrap (((m + 1 : Nat) : Int) - 1) = (m : Int) := by rw [IntWalk.i64_in _ (by omega)]; omega
            have m0 : (0 : Int) ≤ (m : Int) := by omega
            have m1 : (m : Int) < (n : Int) := by omega
            have hprev : prevE l (m + 1) = some ⟨ps, pt, pk, pv⟩ := hp
            clear hp
            by_cases hes : es ≤ ps
            · have hd := decide_eq_true hes
              have hbad : goodE l (m + 1) ⟨es, t, 1, ev⟩ = false := by
                unfold goodE; rw [hprev]; unfold behind; simp; try omega
              have hck := Lib.hid (ckIs_bad hF.out he.out hbad)
              clear hbad
              have hbel4 : ∀ (nq : Nat) (Y : Obj), Hid (Below w.heap.size w (((wr.alloc (.cells #[.int .i64 es, .int .i64 t, .int .u8 1, .int .u64 ev] 37)).drewN nq).alloc Y)) := fun nq Y => (below_drewN hbelx.out nq).alloc (by have := hsz.out; simp; omega) Y
              go_quiet (fail)
              go_wp2_with fail
              all_goals first
                | (exfalso; omega)
                | (go_ret2; exact ⟨_, _, rfl, hck.out, (hbel4 _ _).out⟩)
                | (exfalso; simp only [bne_eq_false_iff_eq] at *; omega)
            · have hd := decide_eq_false hes
              have hbeh : behind (prevE l (m + 1)) ⟨es, t, 1, ev⟩ = true := by rw [hprev]; unfold behind; simp; omega
              clear hprev hes
              go_quiet (fail)
              go_wp2_with fail
              obtain ⟨W, hW⟩ : ∃ W : World, W = ((wr.alloc (.cells #[.int .i64 es, .int .i64 t, .int .u8 1, .int .u64 ev] 37)).drewN nq) := ⟨_, rfl⟩
              rw [← hW]
              have hBv : Blk W.drew w.heap.size 79 cs := by rw [hW]; exact (((hB.out.alloc _).drewN nq)).drew
              have hMv : IsMapOf W.drew (w.heap.size + 1) .u8 rulesKv 4 := by rw [hW]; exact hM1'
              have hbv : Hid (Below w.heap.size w W.drew) := by rw [hW]; exact Below.drew (below_drewN hbelx.out nq)
              have hXv : Blk W wr.heap.size 37 #[.int .i64 es, .int .i64 t, .int .u8 1, .int .u64 ev] := by rw [hW]; exact hX.drewN nq
              have z0 := hXv.cell 0
              have z1 := hXv.cell 1
              have z2 := hXv.cell 2
              have z3 := hXv.cell 3
              clear hW hXv x0 x1 x2 x3 hX
              have hrule : Calls Try.prog 46 #[.pointer (some ⟨w.heap.size, t * 2, none⟩), .agg #[.int .i64 es, .int .i64 t, .int .u8 1, .int .u64 ev]] W.drew (RuleEnd (okS (stS (l.take (m + 1)) t) ⟨es, t, 1, ev⟩) w.heap.size (t * 2) cs 1 ev W.drew) := enter_any ⟨es, t, 1, ev⟩ w.heap.size (t * 2) cs _ _ W.drew hBv q0 q1
              go_still_tail 5, (by kernel_rfl)
              change wpList _ _ _ _ _ W.drew
              cases hok : okS (stS (l.take (m + 1)) t) ⟨es, t, 1, ev⟩ with
              | true =>
                rw [hok] at hrule
                have hgood : goodE l (m + 1) ⟨es, t, 1, ev⟩ = true := by
                  unfold goodE
                  rw [hright, hbeh, hok]
                  rfl
                clear hok hbeh hright
                go_wp2_with fail
                refine hrule.mono ?_
                rintro e w6 ⟨rfl, hB6, hg6⟩
                have hs6 : w.heap.size + 1 < W.drew.heap.size := (Array.getElem?_eq_some_iff.1 hMv).1
                have hM6 : IsMapOf w6 (w.heap.size + 1) .u8 rulesKv 4 := (hg6.block (w.heap.size + 1) (Array.getElem?_eq_some_iff.1 hMv).1 (by simp)).trans hMv
                have hbel6 : Hid (Below w.heap.size w w6) := hbv.out.grown hg6 (by omega) (fun k e => by cases e; exact Nat.le_refl _)
                have hS6 : Hid (ThrAt ((cs.setIfInBounds (t * 2) (.int .u8 1)).setIfInBounds (t * 2 + 1) (.int .u64 ev)) (stS (l.take (m + 1 + 1)))) := thrAt_set hS.out ht (by rw [stS_take he.out]; unfold upS; rw [if_pos rfl]; rfl) (fun u hu => by rw [stS_take he.out]; unfold upS; rw [if_neg hu])
                have hF6 : Hid (FineTo l (m + 1 + 1)) := fineTo_step hF.out he.out hgood
                clear hrule hBv hMv hbv hg6 hgood
                go_wp2_with fail
                go_roundg g
                case measure => omega
                case rel => exact ⟨m + 1 + 1, _, by omega, by go_num, hF6, hB6, hS6, hM6, hbel6⟩
              | false =>
                rw [hok] at hrule
                have hbad : goodE l (m + 1) ⟨es, t, 1, ev⟩ = false := by
                  unfold goodE
                  rw [hright, hbeh, hok]
                  rfl
                clear hok hbeh hright
                have hck := Lib.hid (ckIs_bad hF.out he.out hbad)
                clear hbad
                go_wp2_with fail
                refine hrule.mono ?_
                rintro e w6 ⟨rfl, hB6, hg6⟩
                have hs6 : w.heap.size + 1 < W.drew.heap.size := (Array.getElem?_eq_some_iff.1 hMv).1
                have hbel6 : Hid (Below w.heap.size w w6) := hbv.out.grown hg6 (by omega) (fun k e => by cases e; exact Nat.le_refl _)
                clear hrule hBv hMv hbv hg6
                go_wp2_with fail
                go_ret2
                exact ⟨_, _, rfl, hck.out, hbel6.out⟩
        · have hlook := rules_look hM1' 2
          rw [show ruleV 2 = .func (.func 47) #[] #[] from rfl, show decide ((1 : Int) ≤ 2 ∧ (2 : Int) ≤ 4) = true from rfl] at hlook
          by_cases hs : es < 0
          · have hbad : goodE l k ⟨es, et, 2, ev⟩ = false := by unfold goodE rightE; simp; omega
            have hck := Lib.hid (ckIs_bad hF.out he.out hbad)
            clear hbad
            go_wp2_with fail
            go_ret2
            exact ⟨_, _, rfl, hck.out, hbelx.out⟩
          by_cases ht0 : et < 0
          · have hbad : goodE l k ⟨es, et, 2, ev⟩ = false := by unfold goodE rightE; simp; omega
            have hck := Lib.hid (ckIs_bad hF.out he.out hbad)
            clear hbad
            go_wp2_with fail
            go_ret2
            exact ⟨_, _, rfl, hck.out, hbelx.out⟩
          by_cases ht1 : 64 ≤ et
          · have hbad : goodE l k ⟨es, et, 2, ev⟩ = false := by unfold goodE rightE; simp; omega
            have hck := Lib.hid (ckIs_bad hF.out he.out hbad)
            clear hbad
            go_wp2_with fail
            go_ret2
            exact ⟨_, _, rfl, hck.out, hbelx.out⟩
          obtain ⟨t, rfl⟩ := Int.eq_ofNat_of_zero_le (show 0 ≤ et by omega)
          have ht : t < 64 := by omega
          have hright : rightE ⟨es, t, 2, ev⟩ = true := by unfold rightE; simp; omega
          obtain ⟨q0, q1⟩ := hS.out t ht
          have x0 := hX.cell 0
          have x1 := hX.cell 1
          have x2 := hX.cell 2
          have x3 := hX.cell 3
          have hbw : b < wr.heap.size := by have := hsz.out; omega
          go_wp2_with fail
          clear hlook
          by_cases hk0 : k = 0
          · have hd1 : decide ((0 : Int) < (k : Int)) = false := by simp; omega
            have hd2 : decide (0 < k) = false := by simp; omega
            have hbeh : behind (prevE l k) ⟨es, t, 2, ev⟩ = true := by unfold prevE; rw [if_pos hk0]; rfl
            clear hk0
            go_quiet (fail)
            go_wp2_with fail
            obtain ⟨W, hW⟩ : ∃ W : World, W = ((wr.alloc (.cells #[.int .i64 es, .int .i64 t, .int .u8 2, .int .u64 ev] 37)).drewN nq) := ⟨_, rfl⟩
            rw [← hW]
            have hBv : Blk W.drew w.heap.size 79 cs := by rw [hW]; exact (((hB.out.alloc _).drewN nq)).drew
            have hMv : IsMapOf W.drew (w.heap.size + 1) .u8 rulesKv 4 := by rw [hW]; exact hM1'
            have hbv : Hid (Below w.heap.size w W.drew) := by rw [hW]; exact Below.drew (below_drewN hbelx.out nq)
            have hXv : Blk W wr.heap.size 37 #[.int .i64 es, .int .i64 t, .int .u8 2, .int .u64 ev] := by rw [hW]; exact hX.drewN nq
            have z0 := hXv.cell 0
            have z1 := hXv.cell 1
            have z2 := hXv.cell 2
            have z3 := hXv.cell 3
            clear hW hXv x0 x1 x2 x3 hX
            have hrule : Calls Try.prog 47 #[.pointer (some ⟨w.heap.size, t * 2, none⟩), .agg #[.int .i64 es, .int .i64 t, .int .u8 2, .int .u64 ev]] W.drew (RuleEnd (okS (stS (l.take k) t) ⟨es, t, 2, ev⟩) w.heap.size (t * 2) cs 0 (stS (l.take k) t).2 W.drew) := exit_any ⟨es, t, 2, ev⟩ w.heap.size (t * 2) cs _ _ W.drew hBv q0 q1
            go_still_tail 5, (by kernel_rfl)
            change wpList _ _ _ _ _ W.drew
            cases hok : okS (stS (l.take k) t) ⟨es, t, 2, ev⟩ with
            | true =>
              rw [hok] at hrule
              have hgood : goodE l k ⟨es, t, 2, ev⟩ = true := by
                unfold goodE
                rw [hright, hbeh, hok]
                rfl
              clear hok hbeh hright
              go_wp2_with fail
              refine hrule.mono ?_
              rintro e w6 ⟨rfl, hB6, hg6⟩
              have hs6 : w.heap.size + 1 < W.drew.heap.size := (Array.getElem?_eq_some_iff.1 hMv).1
              have hM6 : IsMapOf w6 (w.heap.size + 1) .u8 rulesKv 4 := (hg6.block (w.heap.size + 1) (Array.getElem?_eq_some_iff.1 hMv).1 (by simp)).trans hMv
              have hbel6 : Hid (Below w.heap.size w w6) := hbv.out.grown hg6 (by omega) (fun k e => by cases e; exact Nat.le_refl _)
              have hS6 : Hid (ThrAt ((cs.setIfInBounds (t * 2) (.int .u8 0)).setIfInBounds (t * 2 + 1) (.int .u64 (stS (l.take k) t).2)) (stS (l.take (k + 1)))) := thrAt_set hS.out ht (by rw [stS_take he.out]; unfold upS; rw [if_pos rfl]; rfl) (fun u hu => by rw [stS_take he.out]; unfold upS; rw [if_neg hu])
              have hF6 : Hid (FineTo l (k + 1)) := fineTo_step hF.out he.out hgood
              clear hrule hBv hMv hbv hg6 hgood
              go_wp2_with fail
              go_roundg g
              case measure => omega
              case rel => exact ⟨k + 1, _, by omega, by go_num, hF6, hB6, hS6, hM6, hbel6⟩
            | false =>
              rw [hok] at hrule
              have hbad : goodE l k ⟨es, t, 2, ev⟩ = false := by
                unfold goodE
                rw [hright, hbeh, hok]
                rfl
              clear hok hbeh hright
              have hck := Lib.hid (ckIs_bad hF.out he.out hbad)
              clear hbad
              go_wp2_with fail
              refine hrule.mono ?_
              rintro e w6 ⟨rfl, hB6, hg6⟩
              have hs6 : w.heap.size + 1 < W.drew.heap.size := (Array.getElem?_eq_some_iff.1 hMv).1
              have hbel6 : Hid (Below w.heap.size w w6) := hbv.out.grown hg6 (by omega) (fun k e => by cases e; exact Nat.le_refl _)
              clear hrule hBv hMv hbv hg6
              go_wp2_with fail
              go_ret2
              exact ⟨_, _, rfl, hck.out, hbel6.out⟩
          · obtain ⟨m, rfl⟩ : ∃ m, k = m + 1 := ⟨k - 1, by omega⟩
            clear hk0
            obtain ⟨⟨ps, pt, pk, pv⟩, hp, d0, d1, d2, d3⟩ := ev_at (hr.out.below hbel.out) (show m < n by omega)
            dsimp only at d0 d1 d2 d3
            have im : ((m + 1 : Nat) : Int) - 1 = (m : Int) := by omega
            have iw : IntKind.i64.wrap (((m + 1 : Nat) : Int) - 1) = (m : Int) := by rw [IntWalk.i64_in _ (by omega)]; omega
            have m0 : (0 : Int) ≤ (m : Int) := by omega
            have m1 : (m : Int) < (n : Int) := by omega
            have hprev : prevE l (m + 1) = some ⟨ps, pt, pk, pv⟩ := hp
            clear hp
            by_cases hes : es ≤ ps
            · have hd := decide_eq_true hes
              have hbad : goodE l (m + 1) ⟨es, t, 2, ev⟩ = false := by
                unfold goodE; rw [hprev]; unfold behind; simp; try omega
              have hck := Lib.hid (ckIs_bad hF.out he.out hbad)
              clear hbad
              have hbel4 : ∀ (nq : Nat) (Y : Obj), Hid (Below w.heap.size w (((wr.alloc (.cells #[.int .i64 es, .int .i64 t, .int .u8 2, .int .u64 ev] 37)).drewN nq).alloc Y)) := fun nq Y => (below_drewN hbelx.out nq).alloc (by have := hsz.out; simp; omega) Y
              go_quiet (fail)
              go_wp2_with fail
              all_goals first
                | (exfalso; omega)
                | (go_ret2; exact ⟨_, _, rfl, hck.out, (hbel4 _ _).out⟩)
                | (exfalso; simp only [bne_eq_false_iff_eq] at *; omega)
            · have hd := decide_eq_false hes
              have hbeh : behind (prevE l (m + 1)) ⟨es, t, 2, ev⟩ = true := by rw [hprev]; unfold behind; simp; omega
              clear hprev hes
              go_quiet (fail)
              go_wp2_with fail
              obtain ⟨W, hW⟩ : ∃ W : World, W = ((wr.alloc (.cells #[.int .i64 es, .int .i64 t, .int .u8 2, .int .u64 ev] 37)).drewN nq) := ⟨_, rfl⟩
              rw [← hW]
              have hBv : Blk W.drew w.heap.size 79 cs := by rw [hW]; exact (((hB.out.alloc _).drewN nq)).drew
              have hMv : IsMapOf W.drew (w.heap.size + 1) .u8 rulesKv 4 := by rw [hW]; exact hM1'
              have hbv : Hid (Below w.heap.size w W.drew) := by rw [hW]; exact Below.drew (below_drewN hbelx.out nq)
              have hXv : Blk W wr.heap.size 37 #[.int .i64 es, .int .i64 t, .int .u8 2, .int .u64 ev] := by rw [hW]; exact hX.drewN nq
              have z0 := hXv.cell 0
              have z1 := hXv.cell 1
              have z2 := hXv.cell 2
              have z3 := hXv.cell 3
              clear hW hXv x0 x1 x2 x3 hX
              have hrule : Calls Try.prog 47 #[.pointer (some ⟨w.heap.size, t * 2, none⟩), .agg #[.int .i64 es, .int .i64 t, .int .u8 2, .int .u64 ev]] W.drew (RuleEnd (okS (stS (l.take (m + 1)) t) ⟨es, t, 2, ev⟩) w.heap.size (t * 2) cs 0 (stS (l.take (m + 1)) t).2 W.drew) := exit_any ⟨es, t, 2, ev⟩ w.heap.size (t * 2) cs _ _ W.drew hBv q0 q1
              go_still_tail 5, (by kernel_rfl)
              change wpList _ _ _ _ _ W.drew
              cases hok : okS (stS (l.take (m + 1)) t) ⟨es, t, 2, ev⟩ with
              | true =>
                rw [hok] at hrule
                have hgood : goodE l (m + 1) ⟨es, t, 2, ev⟩ = true := by
                  unfold goodE
                  rw [hright, hbeh, hok]
                  rfl
                clear hok hbeh hright
                go_wp2_with fail
                refine hrule.mono ?_
                rintro e w6 ⟨rfl, hB6, hg6⟩
                have hs6 : w.heap.size + 1 < W.drew.heap.size := (Array.getElem?_eq_some_iff.1 hMv).1
                have hM6 : IsMapOf w6 (w.heap.size + 1) .u8 rulesKv 4 := (hg6.block (w.heap.size + 1) (Array.getElem?_eq_some_iff.1 hMv).1 (by simp)).trans hMv
                have hbel6 : Hid (Below w.heap.size w w6) := hbv.out.grown hg6 (by omega) (fun k e => by cases e; exact Nat.le_refl _)
                have hS6 : Hid (ThrAt ((cs.setIfInBounds (t * 2) (.int .u8 0)).setIfInBounds (t * 2 + 1) (.int .u64 (stS (l.take (m + 1)) t).2)) (stS (l.take (m + 1 + 1)))) := thrAt_set hS.out ht (by rw [stS_take he.out]; unfold upS; rw [if_pos rfl]; rfl) (fun u hu => by rw [stS_take he.out]; unfold upS; rw [if_neg hu])
                have hF6 : Hid (FineTo l (m + 1 + 1)) := fineTo_step hF.out he.out hgood
                clear hrule hBv hMv hbv hg6 hgood
                go_wp2_with fail
                go_roundg g
                case measure => omega
                case rel => exact ⟨m + 1 + 1, _, by omega, by go_num, hF6, hB6, hS6, hM6, hbel6⟩
              | false =>
                rw [hok] at hrule
                have hbad : goodE l (m + 1) ⟨es, t, 2, ev⟩ = false := by
                  unfold goodE
                  rw [hright, hbeh, hok]
                  rfl
                clear hok hbeh hright
                have hck := Lib.hid (ckIs_bad hF.out he.out hbad)
                clear hbad
                go_wp2_with fail
                refine hrule.mono ?_
                rintro e w6 ⟨rfl, hB6, hg6⟩
                have hs6 : w.heap.size + 1 < W.drew.heap.size := (Array.getElem?_eq_some_iff.1 hMv).1
                have hbel6 : Hid (Below w.heap.size w w6) := hbv.out.grown hg6 (by omega) (fun k e => by cases e; exact Nat.le_refl _)
                clear hrule hBv hMv hbv hg6
                go_wp2_with fail
                go_ret2
                exact ⟨_, _, rfl, hck.out, hbel6.out⟩
        · have hlook := rules_look hM1' 3
          rw [show ruleV 3 = .func (.func 48) #[] #[] from rfl, show decide ((1 : Int) ≤ 3 ∧ (3 : Int) ≤ 4) = true from rfl] at hlook
          by_cases hs : es < 0
          · have hbad : goodE l k ⟨es, et, 3, ev⟩ = false := by unfold goodE rightE; simp; omega
            have hck := Lib.hid (ckIs_bad hF.out he.out hbad)
            clear hbad
            go_wp2_with fail
            go_ret2
            exact ⟨_, _, rfl, hck.out, hbelx.out⟩
          by_cases ht0 : et < 0
          · have hbad : goodE l k ⟨es, et, 3, ev⟩ = false := by unfold goodE rightE; simp; omega
            have hck := Lib.hid (ckIs_bad hF.out he.out hbad)
            clear hbad
            go_wp2_with fail
            go_ret2
            exact ⟨_, _, rfl, hck.out, hbelx.out⟩
          by_cases ht1 : 64 ≤ et
          · have hbad : goodE l k ⟨es, et, 3, ev⟩ = false := by unfold goodE rightE; simp; omega
            have hck := Lib.hid (ckIs_bad hF.out he.out hbad)
            clear hbad
            go_wp2_with fail
            go_ret2
            exact ⟨_, _, rfl, hck.out, hbelx.out⟩
          obtain ⟨t, rfl⟩ := Int.eq_ofNat_of_zero_le (show 0 ≤ et by omega)
          have ht : t < 64 := by omega
          have hright : rightE ⟨es, t, 3, ev⟩ = true := by unfold rightE; simp; omega
          obtain ⟨q0, q1⟩ := hS.out t ht
          have x0 := hX.cell 0
          have x1 := hX.cell 1
          have x2 := hX.cell 2
          have x3 := hX.cell 3
          have hbw : b < wr.heap.size := by have := hsz.out; omega
          go_wp2_with fail
          clear hlook
          by_cases hk0 : k = 0
          · have hd1 : decide ((0 : Int) < (k : Int)) = false := by simp; omega
            have hd2 : decide (0 < k) = false := by simp; omega
            have hbeh : behind (prevE l k) ⟨es, t, 3, ev⟩ = true := by unfold prevE; rw [if_pos hk0]; rfl
            clear hk0
            go_quiet (fail)
            go_wp2_with fail
            obtain ⟨W, hW⟩ : ∃ W : World, W = ((wr.alloc (.cells #[.int .i64 es, .int .i64 t, .int .u8 3, .int .u64 ev] 37)).drewN nq) := ⟨_, rfl⟩
            rw [← hW]
            have hBv : Blk W.drew w.heap.size 79 cs := by rw [hW]; exact (((hB.out.alloc _).drewN nq)).drew
            have hMv : IsMapOf W.drew (w.heap.size + 1) .u8 rulesKv 4 := by rw [hW]; exact hM1'
            have hbv : Hid (Below w.heap.size w W.drew) := by rw [hW]; exact Below.drew (below_drewN hbelx.out nq)
            have hXv : Blk W wr.heap.size 37 #[.int .i64 es, .int .i64 t, .int .u8 3, .int .u64 ev] := by rw [hW]; exact hX.drewN nq
            have z0 := hXv.cell 0
            have z1 := hXv.cell 1
            have z2 := hXv.cell 2
            have z3 := hXv.cell 3
            clear hW hXv x0 x1 x2 x3 hX
            have hrule : Calls Try.prog 48 #[.pointer (some ⟨w.heap.size, t * 2, none⟩), .agg #[.int .i64 es, .int .i64 t, .int .u8 3, .int .u64 ev]] W.drew (RuleEnd (okS (stS (l.take k) t) ⟨es, t, 3, ev⟩) w.heap.size (t * 2) cs 3 ev W.drew) := wait_any ⟨es, t, 3, ev⟩ w.heap.size (t * 2) cs _ _ W.drew hBv q0 q1
            go_still_tail 5, (by kernel_rfl)
            change wpList _ _ _ _ _ W.drew
            cases hok : okS (stS (l.take k) t) ⟨es, t, 3, ev⟩ with
            | true =>
              rw [hok] at hrule
              have hgood : goodE l k ⟨es, t, 3, ev⟩ = true := by
                unfold goodE
                rw [hright, hbeh, hok]
                rfl
              clear hok hbeh hright
              go_wp2_with fail
              refine hrule.mono ?_
              rintro e w6 ⟨rfl, hB6, hg6⟩
              have hs6 : w.heap.size + 1 < W.drew.heap.size := (Array.getElem?_eq_some_iff.1 hMv).1
              have hM6 : IsMapOf w6 (w.heap.size + 1) .u8 rulesKv 4 := (hg6.block (w.heap.size + 1) (Array.getElem?_eq_some_iff.1 hMv).1 (by simp)).trans hMv
              have hbel6 : Hid (Below w.heap.size w w6) := hbv.out.grown hg6 (by omega) (fun k e => by cases e; exact Nat.le_refl _)
              have hS6 : Hid (ThrAt ((cs.setIfInBounds (t * 2) (.int .u8 3)).setIfInBounds (t * 2 + 1) (.int .u64 ev)) (stS (l.take (k + 1)))) := thrAt_set hS.out ht (by rw [stS_take he.out]; unfold upS; rw [if_pos rfl]; rfl) (fun u hu => by rw [stS_take he.out]; unfold upS; rw [if_neg hu])
              have hF6 : Hid (FineTo l (k + 1)) := fineTo_step hF.out he.out hgood
              clear hrule hBv hMv hbv hg6 hgood
              go_wp2_with fail
              go_roundg g
              case measure => omega
              case rel => exact ⟨k + 1, _, by omega, by go_num, hF6, hB6, hS6, hM6, hbel6⟩
            | false =>
              rw [hok] at hrule
              have hbad : goodE l k ⟨es, t, 3, ev⟩ = false := by
                unfold goodE
                rw [hright, hbeh, hok]
                rfl
              clear hok hbeh hright
              have hck := Lib.hid (ckIs_bad hF.out he.out hbad)
              clear hbad
              go_wp2_with fail
              refine hrule.mono ?_
              rintro e w6 ⟨rfl, hB6, hg6⟩
              have hs6 : w.heap.size + 1 < W.drew.heap.size := (Array.getElem?_eq_some_iff.1 hMv).1
              have hbel6 : Hid (Below w.heap.size w w6) := hbv.out.grown hg6 (by omega) (fun k e => by cases e; exact Nat.le_refl _)
              clear hrule hBv hMv hbv hg6
              go_wp2_with fail
              go_ret2
              exact ⟨_, _, rfl, hck.out, hbel6.out⟩
          · obtain ⟨m, rfl⟩ : ∃ m, k = m + 1 := ⟨k - 1, by omega⟩
            clear hk0
            obtain ⟨⟨ps, pt, pk, pv⟩, hp, d0, d1, d2, d3⟩ := ev_at (hr.out.below hbel.out) (show m < n by omega)
            dsimp only at d0 d1 d2 d3
            have im : ((m + 1 : Nat) : Int) - 1 = (m : Int) := by omega
            have iw : IntKind.i64.wrap (((m + 1 : Nat) : Int) - 1) = (m : Int) := by rw [IntWalk.i64_in _ (by omega)]; omega
            have m0 : (0 : Int) ≤ (m : Int) := by omega
            have m1 : (m : Int) < (n : Int) := by omega
            have hprev : prevE l (m + 1) = some ⟨ps, pt, pk, pv⟩ := hp
            clear hp
            by_cases hes : es ≤ ps
            · have hd := decide_eq_true hes
              have hbad : goodE l (m + 1) ⟨es, t, 3, ev⟩ = false := by
                unfold goodE; rw [hprev]; unfold behind; simp; try omega
              have hck := Lib.hid (ckIs_bad hF.out he.out hbad)
              clear hbad
              have hbel4 : ∀ (nq : Nat) (Y : Obj), Hid (Below w.heap.size w (((wr.alloc (.cells #[.int .i64 es, .int .i64 t, .int .u8 3, .int .u64 ev] 37)).drewN nq).alloc Y)) := fun nq Y => (below_drewN hbelx.out nq).alloc (by have := hsz.out; simp; omega) Y
              go_quiet (fail)
              go_wp2_with fail
              all_goals first
                | (exfalso; omega)
                | (go_ret2; exact ⟨_, _, rfl, hck.out, (hbel4 _ _).out⟩)
                | (exfalso; simp only [bne_eq_false_iff_eq] at *; omega)
            · have hd := decide_eq_false hes
              have hbeh : behind (prevE l (m + 1)) ⟨es, t, 3, ev⟩ = true := by rw [hprev]; unfold behind; simp; omega
              clear hprev hes
              go_quiet (fail)
              go_wp2_with fail
              obtain ⟨W, hW⟩ : ∃ W : World, W = ((wr.alloc (.cells #[.int .i64 es, .int .i64 t, .int .u8 3, .int .u64 ev] 37)).drewN nq) := ⟨_, rfl⟩
              rw [← hW]
              have hBv : Blk W.drew w.heap.size 79 cs := by rw [hW]; exact (((hB.out.alloc _).drewN nq)).drew
              have hMv : IsMapOf W.drew (w.heap.size + 1) .u8 rulesKv 4 := by rw [hW]; exact hM1'
              have hbv : Hid (Below w.heap.size w W.drew) := by rw [hW]; exact Below.drew (below_drewN hbelx.out nq)
              have hXv : Blk W wr.heap.size 37 #[.int .i64 es, .int .i64 t, .int .u8 3, .int .u64 ev] := by rw [hW]; exact hX.drewN nq
              have z0 := hXv.cell 0
              have z1 := hXv.cell 1
              have z2 := hXv.cell 2
              have z3 := hXv.cell 3
              clear hW hXv x0 x1 x2 x3 hX
              have hrule : Calls Try.prog 48 #[.pointer (some ⟨w.heap.size, t * 2, none⟩), .agg #[.int .i64 es, .int .i64 t, .int .u8 3, .int .u64 ev]] W.drew (RuleEnd (okS (stS (l.take (m + 1)) t) ⟨es, t, 3, ev⟩) w.heap.size (t * 2) cs 3 ev W.drew) := wait_any ⟨es, t, 3, ev⟩ w.heap.size (t * 2) cs _ _ W.drew hBv q0 q1
              go_still_tail 5, (by kernel_rfl)
              change wpList _ _ _ _ _ W.drew
              cases hok : okS (stS (l.take (m + 1)) t) ⟨es, t, 3, ev⟩ with
              | true =>
                rw [hok] at hrule
                have hgood : goodE l (m + 1) ⟨es, t, 3, ev⟩ = true := by
                  unfold goodE
                  rw [hright, hbeh, hok]
                  rfl
                clear hok hbeh hright
                go_wp2_with fail
                refine hrule.mono ?_
                rintro e w6 ⟨rfl, hB6, hg6⟩
                have hs6 : w.heap.size + 1 < W.drew.heap.size := (Array.getElem?_eq_some_iff.1 hMv).1
                have hM6 : IsMapOf w6 (w.heap.size + 1) .u8 rulesKv 4 := (hg6.block (w.heap.size + 1) (Array.getElem?_eq_some_iff.1 hMv).1 (by simp)).trans hMv
                have hbel6 : Hid (Below w.heap.size w w6) := hbv.out.grown hg6 (by omega) (fun k e => by cases e; exact Nat.le_refl _)
                have hS6 : Hid (ThrAt ((cs.setIfInBounds (t * 2) (.int .u8 3)).setIfInBounds (t * 2 + 1) (.int .u64 ev)) (stS (l.take (m + 1 + 1)))) := thrAt_set hS.out ht (by rw [stS_take he.out]; unfold upS; rw [if_pos rfl]; rfl) (fun u hu => by rw [stS_take he.out]; unfold upS; rw [if_neg hu])
                have hF6 : Hid (FineTo l (m + 1 + 1)) := fineTo_step hF.out he.out hgood
                clear hrule hBv hMv hbv hg6 hgood
                go_wp2_with fail
                go_roundg g
                case measure => omega
                case rel => exact ⟨m + 1 + 1, _, by omega, by go_num, hF6, hB6, hS6, hM6, hbel6⟩
              | false =>
                rw [hok] at hrule
                have hbad : goodE l (m + 1) ⟨es, t, 3, ev⟩ = false := by
                  unfold goodE
                  rw [hright, hbeh, hok]
                  rfl
                clear hok hbeh hright
                have hck := Lib.hid (ckIs_bad hF.out he.out hbad)
                clear hbad
                go_wp2_with fail
                refine hrule.mono ?_
                rintro e w6 ⟨rfl, hB6, hg6⟩
                have hs6 : w.heap.size + 1 < W.drew.heap.size := (Array.getElem?_eq_some_iff.1 hMv).1
                have hbel6 : Hid (Below w.heap.size w w6) := hbv.out.grown hg6 (by omega) (fun k e => by cases e; exact Nat.le_refl _)
                clear hrule hBv hMv hbv hg6
                go_wp2_with fail
                go_ret2
                exact ⟨_, _, rfl, hck.out, hbel6.out⟩
        · have hlook := rules_look hM1' 4
          rw [show ruleV 4 = .func (.func 49) #[] #[] from rfl, show decide ((1 : Int) ≤ 4 ∧ (4 : Int) ≤ 4) = true from rfl] at hlook
          by_cases hs : es < 0
          · have hbad : goodE l k ⟨es, et, 4, ev⟩ = false := by unfold goodE rightE; simp; omega
            have hck := Lib.hid (ckIs_bad hF.out he.out hbad)
            clear hbad
            go_wp2_with fail
            go_ret2
            exact ⟨_, _, rfl, hck.out, hbelx.out⟩
          by_cases ht0 : et < 0
          · have hbad : goodE l k ⟨es, et, 4, ev⟩ = false := by unfold goodE rightE; simp; omega
            have hck := Lib.hid (ckIs_bad hF.out he.out hbad)
            clear hbad
            go_wp2_with fail
            go_ret2
            exact ⟨_, _, rfl, hck.out, hbelx.out⟩
          by_cases ht1 : 64 ≤ et
          · have hbad : goodE l k ⟨es, et, 4, ev⟩ = false := by unfold goodE rightE; simp; omega
            have hck := Lib.hid (ckIs_bad hF.out he.out hbad)
            clear hbad
            go_wp2_with fail
            go_ret2
            exact ⟨_, _, rfl, hck.out, hbelx.out⟩
          obtain ⟨t, rfl⟩ := Int.eq_ofNat_of_zero_le (show 0 ≤ et by omega)
          have ht : t < 64 := by omega
          have hright : rightE ⟨es, t, 4, ev⟩ = true := by unfold rightE; simp; omega
          obtain ⟨q0, q1⟩ := hS.out t ht
          have x0 := hX.cell 0
          have x1 := hX.cell 1
          have x2 := hX.cell 2
          have x3 := hX.cell 3
          have hbw : b < wr.heap.size := by have := hsz.out; omega
          go_wp2_with fail
          clear hlook
          by_cases hk0 : k = 0
          · have hd1 : decide ((0 : Int) < (k : Int)) = false := by simp; omega
            have hd2 : decide (0 < k) = false := by simp; omega
            have hbeh : behind (prevE l k) ⟨es, t, 4, ev⟩ = true := by unfold prevE; rw [if_pos hk0]; rfl
            clear hk0
            go_quiet (fail)
            go_wp2_with fail
            obtain ⟨W, hW⟩ : ∃ W : World, W = ((wr.alloc (.cells #[.int .i64 es, .int .i64 t, .int .u8 4, .int .u64 ev] 37)).drewN nq) := ⟨_, rfl⟩
            rw [← hW]
            have hBv : Blk W.drew w.heap.size 79 cs := by rw [hW]; exact (((hB.out.alloc _).drewN nq)).drew
            have hMv : IsMapOf W.drew (w.heap.size + 1) .u8 rulesKv 4 := by rw [hW]; exact hM1'
            have hbv : Hid (Below w.heap.size w W.drew) := by rw [hW]; exact Below.drew (below_drewN hbelx.out nq)
            have hXv : Blk W wr.heap.size 37 #[.int .i64 es, .int .i64 t, .int .u8 4, .int .u64 ev] := by rw [hW]; exact hX.drewN nq
            have z0 := hXv.cell 0
            have z1 := hXv.cell 1
            have z2 := hXv.cell 2
            have z3 := hXv.cell 3
            clear hW hXv x0 x1 x2 x3 hX
            have hrule : Calls Try.prog 49 #[.pointer (some ⟨w.heap.size, t * 2, none⟩), .agg #[.int .i64 es, .int .i64 t, .int .u8 4, .int .u64 ev]] W.drew (RuleEnd (okS (stS (l.take k) t) ⟨es, t, 4, ev⟩) w.heap.size (t * 2) cs 0 (stS (l.take k) t).2 W.drew) := done_any ⟨es, t, 4, ev⟩ w.heap.size (t * 2) cs _ _ W.drew hBv q0 q1
            go_still_tail 5, (by kernel_rfl)
            change wpList _ _ _ _ _ W.drew
            cases hok : okS (stS (l.take k) t) ⟨es, t, 4, ev⟩ with
            | true =>
              rw [hok] at hrule
              have hgood : goodE l k ⟨es, t, 4, ev⟩ = true := by
                unfold goodE
                rw [hright, hbeh, hok]
                rfl
              clear hok hbeh hright
              go_wp2_with fail
              refine hrule.mono ?_
              rintro e w6 ⟨rfl, hB6, hg6⟩
              have hs6 : w.heap.size + 1 < W.drew.heap.size := (Array.getElem?_eq_some_iff.1 hMv).1
              have hM6 : IsMapOf w6 (w.heap.size + 1) .u8 rulesKv 4 := (hg6.block (w.heap.size + 1) (Array.getElem?_eq_some_iff.1 hMv).1 (by simp)).trans hMv
              have hbel6 : Hid (Below w.heap.size w w6) := hbv.out.grown hg6 (by omega) (fun k e => by cases e; exact Nat.le_refl _)
              have hS6 : Hid (ThrAt ((cs.setIfInBounds (t * 2) (.int .u8 0)).setIfInBounds (t * 2 + 1) (.int .u64 (stS (l.take k) t).2)) (stS (l.take (k + 1)))) := thrAt_set hS.out ht (by rw [stS_take he.out]; unfold upS; rw [if_pos rfl]; rfl) (fun u hu => by rw [stS_take he.out]; unfold upS; rw [if_neg hu])
              have hF6 : Hid (FineTo l (k + 1)) := fineTo_step hF.out he.out hgood
              clear hrule hBv hMv hbv hg6 hgood
              go_wp2_with fail
              go_roundg g
              case measure => omega
              case rel => exact ⟨k + 1, _, by omega, by go_num, hF6, hB6, hS6, hM6, hbel6⟩
            | false =>
              rw [hok] at hrule
              have hbad : goodE l k ⟨es, t, 4, ev⟩ = false := by
                unfold goodE
                rw [hright, hbeh, hok]
                rfl
              clear hok hbeh hright
              have hck := Lib.hid (ckIs_bad hF.out he.out hbad)
              clear hbad
              go_wp2_with fail
              refine hrule.mono ?_
              rintro e w6 ⟨rfl, hB6, hg6⟩
              have hs6 : w.heap.size + 1 < W.drew.heap.size := (Array.getElem?_eq_some_iff.1 hMv).1
              have hbel6 : Hid (Below w.heap.size w w6) := hbv.out.grown hg6 (by omega) (fun k e => by cases e; exact Nat.le_refl _)
              clear hrule hBv hMv hbv hg6
              go_wp2_with fail
              go_ret2
              exact ⟨_, _, rfl, hck.out, hbel6.out⟩
          · obtain ⟨m, rfl⟩ : ∃ m, k = m + 1 := ⟨k - 1, by omega⟩
            clear hk0
            obtain ⟨⟨ps, pt, pk, pv⟩, hp, d0, d1, d2, d3⟩ := ev_at (hr.out.below hbel.out) (show m < n by omega)
            dsimp only at d0 d1 d2 d3
            have im : ((m + 1 : Nat) : Int) - 1 = (m : Int) := by omega
            have iw : IntKind.i64.wrap (((m + 1 : Nat) : Int) - 1) = (m : Int) := by rw [IntWalk.i64_in _ (by omega)]; omega
            have m0 : (0 : Int) ≤ (m : Int) := by omega
            have m1 : (m : Int) < (n : Int) := by omega
            have hprev : prevE l (m + 1) = some ⟨ps, pt, pk, pv⟩ := hp
            clear hp
            by_cases hes : es ≤ ps
            · have hd := decide_eq_true hes
              by_cases hgg : es = ps ∧ pk = 3 ∧ pt = t
              · obtain ⟨e1, rfl, rfl⟩ := hgg
                obtain rfl : es = ps := e1
                have hbeh : behind (prevE l (m + 1)) ⟨es, t, 4, ev⟩ = true := by rw [hprev]; unfold behind; simp
                clear hprev hes
                go_quiet (fail)
                go_wp2_with fail
                obtain ⟨W, hW⟩ : ∃ W : World, W = (((wr.alloc (.cells #[.int .i64 es, .int .i64 t, .int .u8 4, .int .u64 ev] 37)).drewN nq).alloc (.cells #[.int .i64 es, .int .i64 t, .int .u8 3, .int .u64 pv] 37)) := ⟨_, rfl⟩
                rw [← hW]
                have hBv : Blk W.drew w.heap.size 79 cs := by rw [hW]; exact ((((hB.out.alloc _).drewN nq).alloc _)).drew
                have hMv : IsMapOf W.drew (w.heap.size + 1) .u8 rulesKv 4 := by rw [hW]; exact IsMapOf.below (w := ((wr.alloc (.cells #[.int .i64 es, .int .i64 t, .int .u8 4, .int .u64 ev] 37)).drewN nq)) hM1' (((Below.refl _ _).alloc (Nat.le_refl _) _).drew)
                have hbv : Hid (Below w.heap.size w W.drew) := by rw [hW]; exact Below.drew ((below_drewN hbelx.out nq).alloc (by have := hsz.out; simp; omega) _)
                have hXv : Blk W wr.heap.size 37 #[.int .i64 es, .int .i64 t, .int .u8 4, .int .u64 ev] := by rw [hW]; exact (hX.drewN nq).alloc _
                have z0 := hXv.cell 0
                have z1 := hXv.cell 1
                have z2 := hXv.cell 2
                have z3 := hXv.cell 3
                clear hW hXv x0 x1 x2 x3 hX
                have hrule : Calls Try.prog 49 #[.pointer (some ⟨w.heap.size, t * 2, none⟩), .agg #[.int .i64 es, .int .i64 t, .int .u8 4, .int .u64 ev]] W.drew (RuleEnd (okS (stS (l.take (m + 1)) t) ⟨es, t, 4, ev⟩) w.heap.size (t * 2) cs 0 (stS (l.take (m + 1)) t).2 W.drew) := done_any ⟨es, t, 4, ev⟩ w.heap.size (t * 2) cs _ _ W.drew hBv q0 q1
                go_still_tail 5, (by kernel_rfl)
                change wpList _ _ _ _ _ W.drew
                cases hok : okS (stS (l.take (m + 1)) t) ⟨es, t, 4, ev⟩ with
                | true =>
                  rw [hok] at hrule
                  have hgood : goodE l (m + 1) ⟨es, t, 4, ev⟩ = true := by
                    unfold goodE
                    rw [hright, hbeh, hok]
                    rfl
                  clear hok hbeh hright
                  go_wp2_with fail
                  refine hrule.mono ?_
                  rintro e w6 ⟨rfl, hB6, hg6⟩
                  have hs6 : w.heap.size + 1 < W.drew.heap.size := (Array.getElem?_eq_some_iff.1 hMv).1
                  have hM6 : IsMapOf w6 (w.heap.size + 1) .u8 rulesKv 4 := (hg6.block (w.heap.size + 1) (Array.getElem?_eq_some_iff.1 hMv).1 (by simp)).trans hMv
                  have hbel6 : Hid (Below w.heap.size w w6) := hbv.out.grown hg6 (by omega) (fun k e => by cases e; exact Nat.le_refl _)
                  have hS6 : Hid (ThrAt ((cs.setIfInBounds (t * 2) (.int .u8 0)).setIfInBounds (t * 2 + 1) (.int .u64 (stS (l.take (m + 1)) t).2)) (stS (l.take (m + 1 + 1)))) := thrAt_set hS.out ht (by rw [stS_take he.out]; unfold upS; rw [if_pos rfl]; rfl) (fun u hu => by rw [stS_take he.out]; unfold upS; rw [if_neg hu])
                  have hF6 : Hid (FineTo l (m + 1 + 1)) := fineTo_step hF.out he.out hgood
                  clear hrule hBv hMv hbv hg6 hgood
                  go_wp2_with fail
                  go_roundg g
                  case measure => omega
                  case rel => exact ⟨m + 1 + 1, _, by omega, by go_num, hF6, hB6, hS6, hM6, hbel6⟩
                | false =>
                  rw [hok] at hrule
                  have hbad : goodE l (m + 1) ⟨es, t, 4, ev⟩ = false := by
                    unfold goodE
                    rw [hright, hbeh, hok]
                    rfl
                  clear hok hbeh hright
                  have hck := Lib.hid (ckIs_bad hF.out he.out hbad)
                  clear hbad
                  go_wp2_with fail
                  refine hrule.mono ?_
                  rintro e w6 ⟨rfl, hB6, hg6⟩
                  have hs6 : w.heap.size + 1 < W.drew.heap.size := (Array.getElem?_eq_some_iff.1 hMv).1
                  have hbel6 : Hid (Below w.heap.size w w6) := hbv.out.grown hg6 (by omega) (fun k e => by cases e; exact Nat.le_refl _)
                  clear hrule hBv hMv hbv hg6
                  go_wp2_with fail
                  go_ret2
                  exact ⟨_, _, rfl, hck.out, hbel6.out⟩
              · have hbad : goodE l (m + 1) ⟨es, t, 4, ev⟩ = false := by
                  unfold goodE; rw [hprev]; unfold behind; simp; try omega
                have hck := Lib.hid (ckIs_bad hF.out he.out hbad)
                clear hbad
                have hbel4 : ∀ (nq : Nat) (Y : Obj), Hid (Below w.heap.size w (((wr.alloc (.cells #[.int .i64 es, .int .i64 t, .int .u8 4, .int .u64 ev] 37)).drewN nq).alloc Y)) := fun nq Y => (below_drewN hbelx.out nq).alloc (by have := hsz.out; simp; omega) Y
                go_quiet (fail)
                go_wp2_with fail
                all_goals first
                  | (exfalso; omega)
                  | (go_ret2; exact ⟨_, _, rfl, hck.out, (hbel4 _ _).out⟩)
                  | (exfalso; simp only [bne_eq_false_iff_eq] at *; omega)
            · have hd := decide_eq_false hes
              have hbeh : behind (prevE l (m + 1)) ⟨es, t, 4, ev⟩ = true := by rw [hprev]; unfold behind; simp; omega
              clear hprev hes
              go_quiet (fail)
              go_wp2_with fail
              obtain ⟨W, hW⟩ : ∃ W : World, W = ((wr.alloc (.cells #[.int .i64 es, .int .i64 t, .int .u8 4, .int .u64 ev] 37)).drewN nq) := ⟨_, rfl⟩
              rw [← hW]
              have hBv : Blk W.drew w.heap.size 79 cs := by rw [hW]; exact (((hB.out.alloc _).drewN nq)).drew
              have hMv : IsMapOf W.drew (w.heap.size + 1) .u8 rulesKv 4 := by rw [hW]; exact hM1'
              have hbv : Hid (Below w.heap.size w W.drew) := by rw [hW]; exact Below.drew (below_drewN hbelx.out nq)
              have hXv : Blk W wr.heap.size 37 #[.int .i64 es, .int .i64 t, .int .u8 4, .int .u64 ev] := by rw [hW]; exact hX.drewN nq
              have z0 := hXv.cell 0
              have z1 := hXv.cell 1
              have z2 := hXv.cell 2
              have z3 := hXv.cell 3
              clear hW hXv x0 x1 x2 x3 hX
              have hrule : Calls Try.prog 49 #[.pointer (some ⟨w.heap.size, t * 2, none⟩), .agg #[.int .i64 es, .int .i64 t, .int .u8 4, .int .u64 ev]] W.drew (RuleEnd (okS (stS (l.take (m + 1)) t) ⟨es, t, 4, ev⟩) w.heap.size (t * 2) cs 0 (stS (l.take (m + 1)) t).2 W.drew) := done_any ⟨es, t, 4, ev⟩ w.heap.size (t * 2) cs _ _ W.drew hBv q0 q1
              go_still_tail 5, (by kernel_rfl)
              change wpList _ _ _ _ _ W.drew
              cases hok : okS (stS (l.take (m + 1)) t) ⟨es, t, 4, ev⟩ with
              | true =>
                rw [hok] at hrule
                have hgood : goodE l (m + 1) ⟨es, t, 4, ev⟩ = true := by
                  unfold goodE
                  rw [hright, hbeh, hok]
                  rfl
                clear hok hbeh hright
                go_wp2_with fail
                refine hrule.mono ?_
                rintro e w6 ⟨rfl, hB6, hg6⟩
                have hs6 : w.heap.size + 1 < W.drew.heap.size := (Array.getElem?_eq_some_iff.1 hMv).1
                have hM6 : IsMapOf w6 (w.heap.size + 1) .u8 rulesKv 4 := (hg6.block (w.heap.size + 1) (Array.getElem?_eq_some_iff.1 hMv).1 (by simp)).trans hMv
                have hbel6 : Hid (Below w.heap.size w w6) := hbv.out.grown hg6 (by omega) (fun k e => by cases e; exact Nat.le_refl _)
                have hS6 : Hid (ThrAt ((cs.setIfInBounds (t * 2) (.int .u8 0)).setIfInBounds (t * 2 + 1) (.int .u64 (stS (l.take (m + 1)) t).2)) (stS (l.take (m + 1 + 1)))) := thrAt_set hS.out ht (by rw [stS_take he.out]; unfold upS; rw [if_pos rfl]; rfl) (fun u hu => by rw [stS_take he.out]; unfold upS; rw [if_neg hu])
                have hF6 : Hid (FineTo l (m + 1 + 1)) := fineTo_step hF.out he.out hgood
                clear hrule hBv hMv hbv hg6 hgood
                go_wp2_with fail
                go_roundg g
                case measure => omega
                case rel => exact ⟨m + 1 + 1, _, by omega, by go_num, hF6, hB6, hS6, hM6, hbel6⟩
              | false =>
                rw [hok] at hrule
                have hbad : goodE l (m + 1) ⟨es, t, 4, ev⟩ = false := by
                  unfold goodE
                  rw [hright, hbeh, hok]
                  rfl
                clear hok hbeh hright
                have hck := Lib.hid (ckIs_bad hF.out he.out hbad)
                clear hbad
                go_wp2_with fail
                refine hrule.mono ?_
                rintro e w6 ⟨rfl, hB6, hg6⟩
                have hs6 : w.heap.size + 1 < W.drew.heap.size := (Array.getElem?_eq_some_iff.1 hMv).1
                have hbel6 : Hid (Below w.heap.size w w6) := hbv.out.grown hg6 (by omega) (fun k e => by cases e; exact Nat.le_refl _)
                clear hrule hBv hMv hbv hg6
                go_wp2_with fail
                go_ret2
                exact ⟨_, _, rfl, hck.out, hbel6.out⟩
      · have hlook := rules_look hM1' ek
        rw [decide_eq_false hkk] at hlook
        have hbad : goodE l k ⟨es, et, ek, ev⟩ = false := by unfold goodE rightE; rw [decide_eq_false hkk]; simp
        have hck := Lib.hid (ckIs_bad hF.out he.out hbad)
        clear hbad
        go_wp2_with fail
        go_ret2
        exact ⟨_, _, rfl, hck.out, hbelx.out⟩
end Go.Proofs.Ythkppihfdlmhgaa
