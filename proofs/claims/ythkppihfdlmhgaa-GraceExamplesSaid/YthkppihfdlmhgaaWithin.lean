/- grace.within, must, must$1: what a wait has to wait for, section by section. -/
import Derived.Test.YthkppihfdlmhgaaMems
import Derived.Test.YthkppihfdlmhgaaExm
namespace Go.Proofs.Ythkppihfdlmhgaa
open Go Go.RowKit
set_option linter.unusedVariables false

set_option maxHeartbeats 1000000 in
theorem within_any (set v : Int) (h0 : 0 ≤ set) (h1 : set < 18446744073709551616) (hv : 0 ≤ v) (w : World) :
    Calls Try.prog 32 #[.int .u64 set, .int .u64 v] w fun e w' => e = .returned (.bool (inS set v)) ∧ Below w.heap.size w w' := by
  have hin := Lib.hid (in_mem (set := set) hv)
  go_enter Try.func32, Try.ntmps32
  go_wp2_with fail
  refine (members_any set h0 h1 w).mono ?_
  rintro e w1 ⟨A, N, c, rfl, hN, hr, hb⟩
  have hN64 : N ≤ 64 := by rw [hN.out]; exact memT_len set 64
  go_wp2_with fail
  go_loopg [10] N (fun g i wr => ∃ k : Nat, k + g = N ∧ i = .int .i64 k ∧ wr = w1 ∧ Hid (((memS set).take k).any (fun x => decide ((x : Int) = v)) = false))
  case atStart => exact ⟨0, by omega, rfl, rfl, rfl⟩
  case round =>
    obtain ⟨k, hk, rfl, rfl, hno⟩ := hrel
    cases gk with
    | zero =>
      obtain rfl : k = N := by omega
      have hz : Hid (inS set v = false) := by
        have := hno.out
        rw [List.take_of_length_le (by rw [← hN.out]; exact Nat.le_refl _)] at this
        exact hin.out.symm.trans this
      clear hno
      go_wp2_with fail
      go_ret
      exact ⟨congrArg (fun b => Ending.returned (Value.bool b)) hz.out.symm, hb.out⟩
    | succ g =>
      obtain ⟨b, o, rfl, hbB⟩ := reads_head hr.out (by omega) (by decide)
      obtain ⟨ad, u, he, _, hx, hc⟩ := hr.out.at_ (show k < N by omega)
      obtain rfl := Option.some.inj he
      obtain ⟨x, hxk, rfl⟩ := nats_get _ k hx
      rw [Addr.add_lit] at hc
      have hx64 : x < 64 := mem_lt (List.mem_of_getElem? hxk)
      have k0 : (0 : Int) ≤ (k : Int) := by omega
      have k1 : (k : Int) < (N : Int) := by omega
      have hx0 : (0 : Int) ≤ (x : Int) := by omega
      have hx1 : (x : Int) < 18446744073709551616 := by omega
      have htk := any_take (fun x : Nat => decide ((x : Int) = v)) hxk
      clear hx
      by_cases hxv : (x : Int) = v
      · have hz : Hid (inS set v = true) := by
          refine hin.out.symm.trans ?_
          rw [List.any_eq_true]
          exact ⟨x, List.mem_of_getElem? hxk, decide_eq_true hxv⟩
        clear htk hno hxk
        subst hxv
        go_wp2_with fail
        go_ret
        exact ⟨congrArg (fun b => Ending.returned (Value.bool b)) hz.out.symm, hb.out⟩
      · have hno2 : Hid (((memS set).take (k + 1)).any (fun x => decide ((x : Int) = v)) = false) := by
          unfold Hid
          rw [htk, hno.out, decide_eq_false hxv]
          rfl
        have hd : ((x : Int) == v) = false := by simpa using hxv
        clear htk hno hxk
        go_wp2_with fail
        go_roundg g
        case measure => omega
        case rel => exact ⟨k + 1, by omega, by go_num, rfl, hno2⟩

theorem must_any (st set : Int) (w : World) :
    Calls Try.prog 22 #[.int .i64 st, .int .u64 set] w fun e w' => e = .returned (.func (.func 36) #[] #[.pointer (some ⟨w.heap.size, 0, none⟩), .pointer (some ⟨w.heap.size + 1, 0, none⟩)]) ∧ w' = (w.alloc (.cells #[.int .i64 st] 3)).alloc (.cells #[.int .u64 set] 23) := by
  go_enter Try.func22, Try.ntmps22
  go_wp2_with fail
  go_ret
  exact ⟨by simp, rfl⟩

set_option maxHeartbeats 1000000 in
theorem must1_any (s : Sec) (st set : Int) (p q : Nat) (h0 : 0 ≤ set) (h1 : set < 18446744073709551616) (hv : 0 ≤ s.val) (w : World) (hp : w.cell? ⟨p, 0, none⟩ = some (.int .i64 st)) (hq : w.cell? ⟨q, 0, none⟩ = some (.int .u64 set)) (hpl : p < w.heap.size) (hql : q < w.heap.size) :
    Calls Try.prog 36 #[seV s, .pointer (some ⟨p, 0, none⟩), .pointer (some ⟨q, 0, none⟩)] w fun e w' => e = .returned (.bool (dueB st set s)) ∧ Below w.heap.size w w' := by
  obtain ⟨t, v, en, ex⟩ := s
  have hE := Blk.new w 43 #[.int .i64 t, .int .u64 v, .int .i64 en, .int .i64 ex]
  have hb1 := Lib.hid ((Below.refl _ w).alloc (Nat.le_refl _) (.cells #[.int .i64 t, .int .u64 v, .int .i64 en, .int .i64 ex] 43))
  have e1 := hE.cell 1
  have e2 := hE.cell 2
  have e3 := hE.cell 3
  have p1 := (World.cell?_alloc_lt w (.cells #[.int .i64 t, .int .u64 v, .int .i64 en, .int .i64 ex] 43) ⟨p, 0, none⟩ hpl).trans hp
  have q1 := (World.cell?_alloc_lt w (.cells #[.int .i64 t, .int .u64 v, .int .i64 en, .int .i64 ex] 43) ⟨q, 0, none⟩ hql).trans hq
  simp at e1 e2 e3
  dsimp only at hv
  unfold seV dueB
  clear hE hp hq
  dsimp only
  by_cases c1 : en < st
  · by_cases c2 : ex < 0
    · have d1 := decide_eq_true c1
      have d2 := decide_eq_true c2
      rw [d1, d2]
      go_enter Try.func36, Try.ntmps36
      go_wp2_with fail
      refine (within_any set v h0 h1 hv _).mono ?_
      rintro e w2 ⟨rfl, hb⟩
      have hb2 := below_on hb1 hb
      clear hb hb1
      go_wp2_with fail
      go_ret
      exact ⟨by simp, hb2.out⟩
    · by_cases c3 : st ≤ ex
      · have d1 := decide_eq_true c1
        have d2 := decide_eq_false c2
        have d3 := decide_eq_true c3
        rw [d1, d2, d3]
        go_enter Try.func36, Try.ntmps36
        go_wp2_with fail
        refine (within_any set v h0 h1 hv _).mono ?_
        rintro e w2 ⟨rfl, hb⟩
        have hb2 := below_on hb1 hb
        clear hb hb1
        go_wp2_with fail
        go_ret
        exact ⟨by simp, hb2.out⟩
      · have d1 := decide_eq_true c1
        have d2 := decide_eq_false c2
        have d3 := decide_eq_false c3
        rw [d1, d2, d3]
        go_enter Try.func36, Try.ntmps36
        go_wp2_with fail
        go_ret
        exact ⟨by simp, hb1.out⟩
  · have d1 := decide_eq_false c1
    rw [d1]
    go_enter Try.func36, Try.ntmps36
    go_wp2_with fail
    go_ret
    exact ⟨by simp, hb1.out⟩
end Go.Proofs.Ythkppihfdlmhgaa
