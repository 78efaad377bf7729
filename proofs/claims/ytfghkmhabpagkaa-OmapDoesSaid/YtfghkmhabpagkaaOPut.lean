/- The program's map, walked: Put, PutIfAbsent, CompareAndSwap. -/
import Derived.Test.YtfghkmhabpagkaaOEq
namespace Go.Proofs.Ytfghkmhabpagkaa
open Go Go.RowKit
set_option linter.unusedVariables false

set_option maxHeartbeats 2000000 in
theorem putM {B : World} {g : Nat} {v : Value} {l : List Pr} (key val : Int) (w : World) (h : Hid (MapAt B w g v l)) (hl : l.length ≤ 800000) :
    Calls Try.prog 29 #[.pointer (some ⟨g, 0, none⟩), .int .u64 key, .int .u64 val] w fun e w' =>
      e = .returned (.tuple #[.int .u64 (valO (look Pr.key l key)), .bool (look Pr.key l key).isSome, .int .i64 0]) ∧ ∃ v', MapAt B w' g v' (setP ⟨key, val⟩ l) ∧ Stays w w' g v v' := by
  have hc := getM key w h
  unfold GetO at hc
  obtain ⟨x, hx⟩ : ∃ x, valO (look Pr.key l key) = x := ⟨_, rfl⟩
  obtain ⟨b, hbb⟩ : ∃ b, (look Pr.key l key).isSome = b := ⟨_, rfl⟩
  rw [hx, hbb] at hc ⊢
  clear hx hbb
  go_enter Try.func29, Try.ntmps29
  go_wp2_with fail
  refine hc.mono ?_
  rintro e w1 ⟨rfl, hb⟩
  have h1 := mapAt_on h hb
  have hs1 : Hid (Stays w w1 g v v) := Stays.of_below hb
  clear hc hb
  go_wp2_with fail
  refine (setO_any l B.heap.size g v key val w1 h1.out.o hl).mono ?_
  rintro e w2 ⟨⟨y, rfl⟩, hE⟩
  have hend := Lib.hid (h1.out.ends hE)
  clear hE
  go_wp2_with fail
  go_ret3
  obtain ⟨v', e1, e2⟩ := hend.out
  exact ⟨rfl, v', e1, hs1.out.trans e2⟩
/-- The pairs behind PutIfAbsent. -/
def pifL (l : List Pr) (key val : Int) : List Pr := if (look Pr.key l key).isSome = true then l else setP ⟨key, val⟩ l
set_option maxHeartbeats 2000000 in
theorem pifM {B : World} {g : Nat} {v : Value} {l : List Pr} (key val : Int) (w : World) (h : Hid (MapAt B w g v l)) (hl : l.length ≤ 800000) :
    Calls Try.prog 30 #[.pointer (some ⟨g, 0, none⟩), .int .u64 key, .int .u64 val] w fun e w' =>
      e = .returned (.tuple #[.int .u64 (valO (look Pr.key l key)), .bool (look Pr.key l key).isSome, .int .i64 0]) ∧ ∃ v', MapAt B w' g v' (pifL l key val) ∧ Stays w w' g v v' := by
  have hc := getM key w h
  unfold GetO at hc
  unfold pifL
  obtain ⟨x, hx⟩ : ∃ x, valO (look Pr.key l key) = x := ⟨_, rfl⟩
  obtain ⟨b, hbb⟩ : ∃ b, (look Pr.key l key).isSome = b := ⟨_, rfl⟩
  rw [hx, hbb] at hc ⊢
  clear hx hbb
  cases b with
  | true =>
    rw [if_pos rfl]
    go_enter Try.func30, Try.ntmps30
    go_wp2_with fail
    refine hc.mono ?_
    rintro e w1 ⟨rfl, hb⟩
    have h1 := mapAt_on h hb
    have hs1 : Hid (Stays w w1 g v v) := Stays.of_below hb
    clear hc hb
    go_wp2_with fail
    go_ret3
    exact ⟨rfl, v, h1.out, hs1.out⟩
  | false =>
    rw [if_neg (by decide)]
    go_enter Try.func30, Try.ntmps30
    go_wp2_with fail
    refine hc.mono ?_
    rintro e w1 ⟨rfl, hb⟩
    have h1 := mapAt_on h hb
    have hs1 : Hid (Stays w w1 g v v) := Stays.of_below hb
    clear hc hb
    go_wp2_with fail
    refine (setO_any l B.heap.size g v key val w1 h1.out.o hl).mono ?_
    rintro e w2 ⟨⟨y, rfl⟩, hE⟩
    have hend := Lib.hid (h1.out.ends hE)
    clear hE
    go_wp2_with fail
    go_ret3
    obtain ⟨v', e1, e2⟩ := hend.out
    exact ⟨rfl, v', e1, hs1.out.trans e2⟩
theorem results_tmp4 {fn : Func} {t u v x : Tmp} (h : fn.results = #[.tmp t, .tmp u, .tmp v, .tmp x]) (tmps : Array Value) (P : Program) (w : World) :
    (results fn tmps).run P w = .ok (.tuple #[tmps.getD t undef, tmps.getD u undef, tmps.getD v undef, tmps.getD x undef]) w := by
  simp [results, h]
/-- CompareAndSwap swaps. -/
def casB (l : List Pr) (key old : Int) : Bool := (look Pr.key l key).isSome && decide (valO (look Pr.key l key) = old)
set_option maxHeartbeats 4000000 in
theorem casM {B : World} {g : Nat} {v : Value} {l : List Pr} (key old val : Int) (w : World) (h : Hid (MapAt B w g v l)) (hl : l.length ≤ 800000) :
    Calls Try.prog 32 #[.pointer (some ⟨g, 0, none⟩), .int .u64 key, .int .u64 old, .int .u64 val] w fun e w' =>
      e = .returned (.tuple #[.int .u64 (valO (look Pr.key l key)), .bool (look Pr.key l key).isSome, .bool (casB l key old), .int .i64 0]) ∧ ∃ v', MapAt B w' g v' (if casB l key old = true then setP ⟨key, val⟩ l else l) ∧ Stays w w' g v v' := by
  have hc := getM key w h
  unfold GetO at hc
  unfold casB
  obtain ⟨x, hx⟩ : ∃ x, valO (look Pr.key l key) = x := ⟨_, rfl⟩
  obtain ⟨b, hbb⟩ : ∃ b, (look Pr.key l key).isSome = b := ⟨_, rfl⟩
  rw [hx, hbb] at hc ⊢
  clear hx hbb
  cases b with
  | false =>
    rw [Bool.false_and, if_neg (by decide)]
    go_enter Try.func32, Try.ntmps32
    go_wp2_with fail
    refine hc.mono ?_
    rintro e w1 ⟨rfl, hb⟩
    have h1 := mapAt_on h hb
    have hs1 : Hid (Stays w w1 g v v) := Stays.of_below hb
    clear hc hb
    go_wp2_with fail
    refine bodyPost_ret (results_tmp4 rfl _ _ _) rfl ?_
    exact ⟨rfl, v, h1.out, hs1.out⟩
  | true =>
    rw [Bool.true_and]
    by_cases ho : x = old
    · subst ho
      rw [decide_eq_true rfl, if_pos rfl]
      go_enter Try.func32, Try.ntmps32
      go_wp2_with fail
      refine hc.mono ?_
      rintro e w1 ⟨rfl, hb⟩
      have h1 := mapAt_on h hb
      have hs1 : Hid (Stays w w1 g v v) := Stays.of_below hb
      clear hc hb
      go_wp2_with fail
      refine (setO_any l B.heap.size g v key val w1 h1.out.o hl).mono ?_
      rintro e w2 ⟨⟨y, rfl⟩, hE⟩
      have hend := Lib.hid (h1.out.ends hE)
      clear hE
      go_wp2_with fail
      refine bodyPost_ret (results_tmp4 rfl _ _ _) rfl ?_
      obtain ⟨v', e1, e2⟩ := hend.out
      exact ⟨rfl, v', e1, hs1.out.trans e2⟩
    · have hd := decide_eq_false ho
      have hd2 : (x == old) = false := by simpa using ho
      rw [hd, if_neg (by decide)]
      go_enter Try.func32, Try.ntmps32
      go_wp2_with fail
      refine hc.mono ?_
      rintro e w1 ⟨rfl, hb⟩
      have h1 := mapAt_on h hb
      have hs1 : Hid (Stays w w1 g v v) := Stays.of_below hb
      clear hc hb
      go_wp2_with fail
      refine bodyPost_ret (results_tmp4 rfl _ _ _) rfl ?_
      exact ⟨rfl, v, h1.out, hs1.out⟩
end Go.Proofs.Ytfghkmhabpagkaa
