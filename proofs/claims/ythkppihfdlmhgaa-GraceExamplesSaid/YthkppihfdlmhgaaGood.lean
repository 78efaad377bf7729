/- The reference's good, walked (printed by gen_good.py). -/
import Derived.Test.YthkppihfdlmhgaaRCkP
import Derived.Deep.LoopGhost
namespace Go.Proofs.Ythkppihfdlmhgaa
open Go Go.RowKit
set_option linter.unusedVariables false

set_option maxRecDepth 100000 in
set_option maxHeartbeats 8000000 in
theorem good_any (l : List Ev) (A : Option Addr) (n c k : Nat) (x : Ev) (w : World) (hr : Hid (Reads w w.heap.size 4 A n (evs l))) (hn : n ≤ 65536) (hx : l[k]? = some x) :
    Calls Try.prog 44 #[.slice A n c, .int .i64 k] w (fun e w' => e = .returned (.bool (goodE l k x)) ∧ Below w.heap.size w w') := by
  have hl := Lib.hid (evs_n hr.out)
  have hkn : k < n := by rw [← hl.out]; exact (List.getElem?_eq_some_iff.1 hx).1
  obtain ⟨b, o, rfl, hbB⟩ := reads_head hr.out (by omega) (by decide)
  obtain ⟨e', he0, c0, c1, c2, c3⟩ := ev_at hr.out hkn
  obtain rfl : x = e' := Option.some.inj (hx.symm.trans he0)
  obtain ⟨es, et, ek, ev⟩ := x
  have he := Lib.hid hx
  clear hx he0
  dsimp only at c0 c1 c2 c3
  have k0 : (0 : Int) ≤ (k : Int) := by omega
  have k1 : (k : Int) < (n : Int) := by omega
  have hX := Blk.new w 37 #[.int .i64 es, .int .i64 et, .int .u8 ek, .int .u64 ev]
  have x0 := hX.cell 0
  have x1 := hX.cell 1
  have x2 := hX.cell 2
  have x3 := hX.cell 3
  have hbel := Lib.hid ((Below.refl _ w).alloc (Nat.le_refl _) (.cells #[.int .i64 es, .int .i64 et, .int .u8 ek, .int .u64 ev] 37))
  go_enter Try.func44, Try.ntmps44
  by_cases hrt : 0 ≤ es ∧ 0 ≤ et ∧ et < 64 ∧ 1 ≤ ek ∧ ek ≤ 4
  case neg =>
    have hbad : goodE l k ⟨es, et, ek, ev⟩ = false := by
      unfold goodE rightE; simp; omega
    rw [hbad]
    clear hbad
    go_wp2_with fail
    all_goals first
      | (go_ret; exact ⟨rfl, hbel.out⟩)
      | (exfalso; omega)
      | (exfalso; simp only [bne_eq_false_iff_eq] at *; omega)
  have hright : rightE ⟨es, et, ek, ev⟩ = true := by unfold rightE; simp; omega
  obtain ⟨r0, r1, r2, r3, r4⟩ := hrt
  go_wp2_with fail
  by_cases hk0 : k = 0
  · have hd1 : decide ((0 : Int) < (k : Int)) = false := by simp; omega
    have hd2 : decide (0 < k) = false := by simp; omega
    have hbeh : behind (prevE l k) ⟨es, et, ek, ev⟩ = true := by unfold prevE; rw [if_pos hk0]; rfl
    have hG := goodE_ref hright hbeh
    clear hk0 hbeh hright
    go_quiet (fail)
    go_wp2_with fail
    obtain ⟨W, hW⟩ : ∃ W : World, W = ((w.alloc (.cells #[.int .i64 es, .int .i64 et, .int .u8 ek, .int .u64 ev] 37)).drewN nq) := ⟨_, rfl⟩
    rw [← hW]
    have hbW : Hid (Below w.heap.size w W) := Lib.hid (by rw [hW]; exact below_drewN hbel.out nq)
    have hXv : Blk W w.heap.size 37 #[.int .i64 es, .int .i64 et, .int .u8 ek, .int .u64 ev] := by rw [hW]; exact hX.drewN nq
    have z1 := hXv.cell 1
    have z2 := hXv.cell 2
    have z3 := hXv.cell 3
    clear hW hXv x0 x1 x2 x3 hX c0 c1 c2 c3
    have hrW : Hid (Reads W w.heap.size 4 (some ⟨b, o, none⟩) n (evs l)) := Lib.hid (hr.out.below hbW.out)
    have hbb : b < W.heap.size := by have := hbW.out.size; omega
    go_loopg [7, 8, 9] k (fun g a v i wr => ∃ (m q : Nat), m + g = k ∧ a = .int .u8 (lastE et (l.take m)).1 ∧ v = .int .u64 (lastE et (l.take m)).2 ∧ i = .int .i64 m ∧ wr = W.drewN q)
    case atStart => exact ⟨0, 0, by omega, rfl, rfl, rfl, rfl⟩
    case round =>
      obtain ⟨m, q, hm, rfl, rfl, rfl, rfl⟩ := hrel
      have m0 : (0 : Int) ≤ (m : Int) := by omega
      cases gk with
      | zero =>
        obtain rfl : m = k := by omega
        have hk4 : ek = 1 ∨ ek = 2 ∨ ek = 3 ∨ ek = 4 := by omega
        generalize lastE et (l.take m) = L at hG ⊢
        obtain ⟨lk, lv⟩ := L
        rcases hk4 with rfl | rfl | rfl | rfl
        · go_wp2_with fail
          all_goals
            go_ret
            refine ⟨congrArg (fun z => Ending.returned (Value.bool z)) ?_, below_drewN hbW.out _⟩
            try rw [hG]
            rw [Bool.eq_iff_iff]
            unfold okR
            simp <;> omega
        · go_wp2_with fail
          all_goals
            go_ret
            refine ⟨congrArg (fun z => Ending.returned (Value.bool z)) ?_, below_drewN hbW.out _⟩
            try rw [hG]
            rw [Bool.eq_iff_iff]
            unfold okR
            simp <;> omega
        · go_wp2_with fail
          all_goals
            go_ret
            refine ⟨congrArg (fun z => Ending.returned (Value.bool z)) ?_, below_drewN hbW.out _⟩
            try rw [hG]
            rw [Bool.eq_iff_iff]
            unfold okR
            simp <;> omega
        · go_wp2_with fail
          all_goals
            go_ret
            refine ⟨congrArg (fun z => Ending.returned (Value.bool z)) ?_, below_drewN hbW.out _⟩
            try rw [hG]
            rw [Bool.eq_iff_iff]
            unfold okR
            simp <;> omega
      | succ g =>
        obtain ⟨⟨ms, mt, mk, mv⟩, hem, d0, d1, d2, d3⟩ := ev_at hrW.out (show m < n by omega)
        dsimp only at d0 d1 d2 d3
        have m1 : (m : Int) < (n : Int) := by omega
        have m2 : (m : Int) < (k : Int) := by omega
        by_cases hmt : mt = et
        · subst hmt
          have s1 : (lastE mt (l.take (m + 1))) = (mk, mv) := by rw [lastE_take hem]; simp
          clear hem
          go_wp2_with fail
          go_quiet (fail)
          go_wp2_with fail
          go_quiet (fail)
          go_wp2_with fail
          go_roundg g
          case measure => omega
          case rel => exact ⟨m + 1, _, by omega, by rw [s1], by rw [s1], by go_num, rfl⟩
        · have s1 : (lastE et (l.take (m + 1))) = lastE et (l.take m) := by rw [lastE_take hem]; simp [hmt]
          clear hem
          go_wp2_with fail
          go_quiet (fail)
          go_wp2_with fail
          go_roundg g
          case measure => omega
          case rel => exact ⟨m + 1, _, by omega, by rw [s1], by rw [s1], by go_num, rfl⟩
  · obtain ⟨m, rfl⟩ : ∃ m, k = m + 1 := ⟨k - 1, by omega⟩
    clear hk0
    obtain ⟨⟨ps, pt, pk, pv⟩, hp, d0, d1, d2, d3⟩ := ev_at hr.out (show m < n by omega)
    dsimp only at d0 d1 d2 d3
    have im : ((m + 1 : Nat) : Int) - 1 = (m : Int) := by omega
    have iw : IntKind.i64.wrap (((m + 1 : Nat) : Int) - 1) = (m : Int) := by rw [IntWalk.i64_in _ (by omega)]; omega
    have m0 : (0 : Int) ≤ (m : Int) := by omega
    have m1 : (m : Int) < (n : Int) := by omega
    have hprev : prevE l (m + 1) = some ⟨ps, pt, pk, pv⟩ := hp
    clear hp
    by_cases hes : es ≤ ps
    · have hd := decide_eq_true hes
      by_cases hgg : es = ps ∧ pk = 3 ∧ ek = 4 ∧ pt = et
      · obtain ⟨e1, rfl, rfl, rfl⟩ := hgg
        obtain rfl : es = ps := e1
        have hbeh : behind (prevE l (m + 1)) ⟨es, pt, 4, ev⟩ = true := by rw [hprev]; unfold behind; simp
        have hG := goodE_ref hright hbeh
        clear hprev hes hbeh hright
        go_quiet (fail)
        go_wp2_with fail
        obtain ⟨W, hW⟩ : ∃ W : World, W = (((w.alloc (.cells #[.int .i64 es, .int .i64 pt, .int .u8 4, .int .u64 ev] 37)).drewN nq).alloc (.cells #[.int .i64 es, .int .i64 pt, .int .u8 3, .int .u64 pv] 37)) := ⟨_, rfl⟩
        rw [← hW]
        have hbW : Hid (Below w.heap.size w W) := Lib.hid (by rw [hW]; exact (below_drewN hbel.out nq).alloc (by simp) _)
        have hXv : Blk W w.heap.size 37 #[.int .i64 es, .int .i64 pt, .int .u8 4, .int .u64 ev] := by rw [hW]; exact (hX.drewN nq).alloc _
        have z1 := hXv.cell 1
        have z2 := hXv.cell 2
        have z3 := hXv.cell 3
        clear hW hXv x0 x1 x2 x3 hX c0 c1 c2 c3 d0 d1 d2 d3
        have hrW : Hid (Reads W w.heap.size 4 (some ⟨b, o, none⟩) n (evs l)) := Lib.hid (hr.out.below hbW.out)
        have hbb : b < W.heap.size := by have := hbW.out.size; omega
        go_loopg [7, 8, 9] (m + 1) (fun g a v i wr => ∃ (q9 q : Nat), q9 + g = (m + 1) ∧ a = .int .u8 (lastE pt (l.take q9)).1 ∧ v = .int .u64 (lastE pt (l.take q9)).2 ∧ i = .int .i64 q9 ∧ wr = W.drewN q)
        case atStart => exact ⟨0, 0, by omega, rfl, rfl, rfl, rfl⟩
        case round =>
          obtain ⟨q9, q, hm, rfl, rfl, rfl, rfl⟩ := hrel
          have m0 : (0 : Int) ≤ (q9 : Int) := by omega
          cases gk with
          | zero =>
            obtain rfl : q9 = m + 1 := by omega
            generalize lastE pt (l.take (m + 1)) = L at hG ⊢
            obtain ⟨lk, lv⟩ := L
            go_wp2_with fail
            all_goals
              go_ret
              refine ⟨congrArg (fun z => Ending.returned (Value.bool z)) ?_, below_drewN hbW.out _⟩
              try rw [hG]
              rw [Bool.eq_iff_iff]
              unfold okR
              simp <;> omega
          | succ g =>
            obtain ⟨⟨ms, mt, mk, mv⟩, hem, d0, d1, d2, d3⟩ := ev_at hrW.out (show q9 < n by omega)
            dsimp only at d0 d1 d2 d3
            have m1 : (q9 : Int) < (n : Int) := by omega
            have m2 : (q9 : Int) < ((m + 1) : Int) := by omega
            by_cases hmt : mt = pt
            · subst hmt
              have s1 : (lastE mt (l.take (q9 + 1))) = (mk, mv) := by rw [lastE_take hem]; simp
              clear hem
              go_wp2_with fail
              go_quiet (fail)
              go_wp2_with fail
              go_quiet (fail)
              go_wp2_with fail
              go_roundg g
              case measure => omega
              case rel => exact ⟨q9 + 1, _, by omega, by rw [s1], by rw [s1], by go_num, rfl⟩
            · have s1 : (lastE pt (l.take (q9 + 1))) = lastE pt (l.take q9) := by rw [lastE_take hem]; simp [hmt]
              clear hem
              go_wp2_with fail
              go_quiet (fail)
              go_wp2_with fail
              go_roundg g
              case measure => omega
              case rel => exact ⟨q9 + 1, _, by omega, by rw [s1], by rw [s1], by go_num, rfl⟩
      · have hbad : goodE l (m + 1) ⟨es, et, ek, ev⟩ = false := by
          unfold goodE; rw [hprev]; unfold behind; simp; try omega
        have hbel4 : ∀ (nq : Nat) (X Y : Obj), Hid (Below w.heap.size w (((w.alloc X).drewN nq).alloc Y)) := fun nq X Y => (below_drewN ((Below.refl _ w).alloc (Nat.le_refl _) X) nq).alloc (by simp) Y
        go_quiet (fail)
        go_wp2_with fail
        all_goals first
          | (exfalso; omega)
          | (go_ret; exact ⟨rfl, (hbel4 _ _ _).out⟩)
          | (go_ret; exact ⟨congrArg (fun z => Ending.returned (Value.bool z)) hbad.symm, (hbel4 _ _ _).out⟩)
          | (exfalso; simp only [bne_eq_false_iff_eq] at *; omega)
    · have hd := decide_eq_false hes
      have hbeh : behind (prevE l (m + 1)) ⟨es, et, ek, ev⟩ = true := by rw [hprev]; unfold behind; simp; omega
      have hG := goodE_ref hright hbeh
      clear hprev hes hbeh hright
      go_quiet (fail)
      go_wp2_with fail
      clear d0 d1 d2 d3
      obtain ⟨W, hW⟩ : ∃ W : World, W = ((w.alloc (.cells #[.int .i64 es, .int .i64 et, .int .u8 ek, .int .u64 ev] 37)).drewN nq) := ⟨_, rfl⟩
      rw [← hW]
      have hbW : Hid (Below w.heap.size w W) := Lib.hid (by rw [hW]; exact below_drewN hbel.out nq)
      have hXv : Blk W w.heap.size 37 #[.int .i64 es, .int .i64 et, .int .u8 ek, .int .u64 ev] := by rw [hW]; exact hX.drewN nq
      have z1 := hXv.cell 1
      have z2 := hXv.cell 2
      have z3 := hXv.cell 3
      clear hW hXv x0 x1 x2 x3 hX c0 c1 c2 c3
      have hrW : Hid (Reads W w.heap.size 4 (some ⟨b, o, none⟩) n (evs l)) := Lib.hid (hr.out.below hbW.out)
      have hbb : b < W.heap.size := by have := hbW.out.size; omega
      go_loopg [7, 8, 9] (m + 1) (fun g a v i wr => ∃ (q9 q : Nat), q9 + g = (m + 1) ∧ a = .int .u8 (lastE et (l.take q9)).1 ∧ v = .int .u64 (lastE et (l.take q9)).2 ∧ i = .int .i64 q9 ∧ wr = W.drewN q)
      case atStart => exact ⟨0, 0, by omega, rfl, rfl, rfl, rfl⟩
      case round =>
        obtain ⟨q9, q, hm, rfl, rfl, rfl, rfl⟩ := hrel
        have m0 : (0 : Int) ≤ (q9 : Int) := by omega
        cases gk with
        | zero =>
          obtain rfl : q9 = m + 1 := by omega
          have hk4 : ek = 1 ∨ ek = 2 ∨ ek = 3 ∨ ek = 4 := by omega
          generalize lastE et (l.take (m + 1)) = L at hG ⊢
          obtain ⟨lk, lv⟩ := L
          rcases hk4 with rfl | rfl | rfl | rfl
          · go_wp2_with fail
            all_goals
              go_ret
              refine ⟨congrArg (fun z => Ending.returned (Value.bool z)) ?_, below_drewN hbW.out _⟩
              try rw [hG]
              rw [Bool.eq_iff_iff]
              unfold okR
              simp <;> omega
          · go_wp2_with fail
            all_goals
              go_ret
              refine ⟨congrArg (fun z => Ending.returned (Value.bool z)) ?_, below_drewN hbW.out _⟩
              try rw [hG]
              rw [Bool.eq_iff_iff]
              unfold okR
              simp <;> omega
          · go_wp2_with fail
            all_goals
              go_ret
              refine ⟨congrArg (fun z => Ending.returned (Value.bool z)) ?_, below_drewN hbW.out _⟩
              try rw [hG]
              rw [Bool.eq_iff_iff]
              unfold okR
              simp <;> omega
          · go_wp2_with fail
            all_goals
              go_ret
              refine ⟨congrArg (fun z => Ending.returned (Value.bool z)) ?_, below_drewN hbW.out _⟩
              try rw [hG]
              rw [Bool.eq_iff_iff]
              unfold okR
              simp <;> omega
        | succ g =>
          obtain ⟨⟨ms, mt, mk, mv⟩, hem, d0, d1, d2, d3⟩ := ev_at hrW.out (show q9 < n by omega)
          dsimp only at d0 d1 d2 d3
          have m1 : (q9 : Int) < (n : Int) := by omega
          have m2 : (q9 : Int) < ((m + 1) : Int) := by omega
          by_cases hmt : mt = et
          · subst hmt
            have s1 : (lastE mt (l.take (q9 + 1))) = (mk, mv) := by rw [lastE_take hem]; simp
            clear hem
            go_wp2_with fail
            go_quiet (fail)
            go_wp2_with fail
            go_quiet (fail)
            go_wp2_with fail
            go_roundg g
            case measure => omega
            case rel => exact ⟨q9 + 1, _, by omega, by rw [s1], by rw [s1], by go_num, rfl⟩
          · have s1 : (lastE et (l.take (q9 + 1))) = lastE et (l.take q9) := by rw [lastE_take hem]; simp [hmt]
            clear hem
            go_wp2_with fail
            go_quiet (fail)
            go_wp2_with fail
            go_roundg g
            case measure => omega
            case rel => exact ⟨q9 + 1, _, by omega, by rw [s1], by rw [s1], by go_num, rfl⟩
end Go.Proofs.Ythkppihfdlmhgaa
