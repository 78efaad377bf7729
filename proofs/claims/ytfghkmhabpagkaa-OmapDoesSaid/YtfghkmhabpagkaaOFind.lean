/- The program's map, walked: the search of a key. -/
import Derived.Test.YtfghkmhabpagkaaMapM
import Derived.Test.YtfghkmhabpagkaaODel
import Derived.StillTailTactics
import Derived.BigQuiet
import Derived.Deep.LoopGhost
namespace Go.Proofs.Ytfghkmhabpagkaa
open Go Go.RowKit
set_option linter.unusedVariables false

/-- r parts the list: below it all keys are less than k, from it on none is. -/
def At (l : List Pr) (k : Int) (r : Nat) : Prop := r ≤ l.length ∧ (∀ t p, l[t]? = some p → t < r → p.key < k) ∧ (∀ t p, l[t]? = some p → r ≤ t → k ≤ p.key)
theorem at_end {l : List Pr} {k : Int} (h : At l k l.length) : look Pr.key l k = none := by
  rw [look_none]
  intro p hp he
  obtain ⟨t, ht⟩ := List.getElem?_of_mem hp
  have := h.2.1 t p ht (List.getElem?_eq_some_iff.1 ht).1
  omega
theorem at_look {l : List Pr} (hs : Srt Pr.key l) {k : Int} {r : Nat} {p : Pr} (h : At l k r) (hp : l[r]? = some p) : look Pr.key l k = if p.key = k then some p else none := by
  have hr := (List.getElem?_eq_some_iff.1 hp).1
  split
  · rename_i he
    rw [← he]
    exact look_mem hs (List.mem_of_getElem? hp)
  · rename_i he
    rw [look_none]
    intro q hq e
    obtain ⟨t, ht⟩ := List.getElem?_of_mem hq
    rcases Nat.lt_trichotomy t r with h1 | rfl | h1
    · have := h.2.1 t q ht h1
      omega
    · rw [ht] at hp
      obtain rfl := Option.some.inj hp
      exact he e
    · have h2 := h.2.2 r p hp (Nat.le_refl _)
      have h3 : p.key < q.key := by
        obtain ⟨hi, e1⟩ := List.getElem?_eq_some_iff.1 hp
        obtain ⟨hj, e2⟩ := List.getElem?_eq_some_iff.1 ht
        rw [← e1, ← e2]
        exact List.pairwise_iff_getElem.1 hs r t hi hj h1
      omega

/-- Block g is a map of the program's that holds the pairs l: what a reader needs. -/
def IsQ (w : World) (g : Nat) (l : List Pr) : Prop :=
  ∃ A n c, Blk w g 77 #[.slice A n c] ∧ Reads w w.heap.size 2 A n (prs l) ∧ n ≤ 1000000 ∧ n ≤ c ∧ c ≤ 9223372036854775807
theorem IsQ.below {w w' : World} {g : Nat} {l : List Pr} (h : IsQ w g l) (hb : Below w.heap.size w w') : IsQ w' g l := by
  obtain ⟨A, n, c, h1, h2, h3⟩ := h
  exact ⟨A, n, c, h1.below hb h1.lt, (h2.below hb).more hb.size, h3⟩
theorem IsQ.drewN {w : World} {g : Nat} {l : List Pr} (h : IsQ w g l) (q : Nat) : IsQ (w.drewN q) g l := h

set_option maxHeartbeats 1000000 in
theorem find1_walk (l : List Pr) (A : Option Addr) (n c g mb kb : Nat) (key : Int) (i : Nat) (p : Pr) (w : World) (hB : Hid (Blk w g 77 #[.slice A n c])) (hr : Hid (Reads w w.heap.size 2 A n (prs l)))
    (hm : w.cell? ⟨mb, 0, none⟩ = some (.pointer (some ⟨g, 0, none⟩))) (hk : w.cell? ⟨kb, 0, none⟩ = some (.int .u64 key)) (hp : Hid (l[i]? = some p)) (hi : i < n) :
    Calls Try.prog 55 #[.int .i64 i, .pointer (some ⟨mb, 0, none⟩), .pointer (some ⟨kb, 0, none⟩)] w fun e w' => e = .returned (.bool (decide (key ≤ p.key))) ∧ ∃ q, w' = w.drewN q := by
  have hg := hB.out.cell 0
  simp at hg
  obtain ⟨b, o, rfl, hbB⟩ := reads_head hr.out (by omega) (by decide)
  obtain ⟨q, hx, p0, p1⟩ := prs_at hr.out hi
  obtain rfl := Option.some.inj (hx.symm.trans hp.out)
  obtain ⟨pk, pv⟩ := q
  dsimp only at p0 p1 ⊢
  have j0 : (0 : Int) ≤ (i : Int) := by omega
  have j1 : (i : Int) < (n : Int) := by omega
  clear hx hp
  go_enter Try.func55, Try.ntmps55
  go_wp2
  go_quiet (fail)
  all_goals go_wp2
  all_goals go_ret
  all_goals exact ⟨by first | rfl | simp, _, rfl⟩

set_option maxHeartbeats 4000000 in
theorem search_walk (l : List Pr) (A : Option Addr) (n c g mb kb : Nat) (key : Int) (w : World) (hB : Hid (Blk w g 77 #[.slice A n c])) (hr : Hid (Reads w w.heap.size 2 A n (prs l))) (hs : Hid (Srt Pr.key l)) (hn : n ≤ 1000000)
    (hm : w.cell? ⟨mb, 0, none⟩ = some (.pointer (some ⟨g, 0, none⟩))) (hk : w.cell? ⟨kb, 0, none⟩ = some (.int .u64 key)) :
    Calls Try.prog 54 #[.int .i64 n, .func (.func 55) #[] #[.pointer (some ⟨mb, 0, none⟩), .pointer (some ⟨kb, 0, none⟩)]] w fun e w' => ∃ r : Nat, e = .returned (.int .i64 r) ∧ At l key r ∧ ∃ q, w' = w.drewN q := by
  have hll := Lib.hid (prs_n hr.out)
  have HC : Hid (∀ q i p, l[i]? = some p → i < n → Calls Try.prog 55 #[.int .i64 i, .pointer (some ⟨mb, 0, none⟩), .pointer (some ⟨kb, 0, none⟩)] (w.drewN q) fun e w' => e = .returned (.bool (decide (key ≤ p.key))) ∧ ∃ q', w' = (w.drewN q).drewN q') :=
    Lib.hid (fun q i p hp hi => find1_walk l A n c g mb kb key i p (w.drewN q) (Lib.hid (hB.out.drewN q)) (Lib.hid (hr.out.drewN q)) hm hk (Lib.hid hp) hi)
  clear hm hk
  go_enter Try.func54, Try.ntmps54
  go_wp2
  go_loopg [5, 6] n (fun kx s5 s6 wr => ∃ (lo hi q : Nat), s5 = .int .i64 lo ∧ s6 = .int .i64 hi ∧ lo ≤ hi ∧ hi ≤ n ∧ hi - lo ≤ kx ∧ wr = w.drewN q ∧
    Hid ((∀ t p, l[t]? = some p → t < lo → p.key < key) ∧ (∀ t p, l[t]? = some p → hi ≤ t → key ≤ p.key)))
  case atStart => exact ⟨0, n, 0, rfl, rfl, Nat.zero_le _, Nat.le_refl _, by omega, rfl, ⟨fun t p ht h => absurd h (Nat.not_lt_zero _), fun t p ht h => by have := (List.getElem?_eq_some_iff.1 ht).1; have := hll.out; omega⟩⟩
  case round =>
    obtain ⟨lo, hi, q, rfl, rfl, hlh, hin, hg, rfl, I⟩ := hrel
    by_cases hlt : lo < hi
    · obtain ⟨p, hp⟩ : ∃ p, l[(lo + hi) / 2]? = some p := ⟨_, List.getElem?_eq_getElem (by rw [hll.out]; omega)⟩
      have hc := HC.out q ((lo + hi) / 2) p hp (by omega)
      rw [show (((lo + hi) / 2 : Nat) : Int) = ((lo : Int) + (hi : Int)) / 2 by omega] at hc
      have hmono : ∀ t p', l[t]? = some p' → (lo + hi) / 2 < t → p.key < p'.key := fun t p' ht h => by
        obtain ⟨hi', e1⟩ := List.getElem?_eq_some_iff.1 hp
        obtain ⟨hj', e2⟩ := List.getElem?_eq_some_iff.1 ht
        rw [← e1, ← e2]
        exact List.pairwise_iff_getElem.1 hs.out _ t hi' hj' h
      have hmono2 : ∀ t p', l[t]? = some p' → t < (lo + hi) / 2 → p'.key < p.key := fun t p' ht h => by
        obtain ⟨hi', e1⟩ := List.getElem?_eq_some_iff.1 hp
        obtain ⟨hj', e2⟩ := List.getElem?_eq_some_iff.1 ht
        rw [← e1, ← e2]
        exact List.pairwise_iff_getElem.1 hs.out t _ hj' hi' h
      by_cases hpk : key ≤ p.key
      · have I2 := Lib.hid (show (∀ t p, l[t]? = some p → t < lo → p.key < key) ∧ (∀ t p, l[t]? = some p → (lo + hi) / 2 ≤ t → key ≤ p.key) from ⟨I.out.1, fun t p' ht h => by
          rcases Nat.lt_or_eq_of_le h with h1 | h1
          · have := hmono t p' ht h1
            omega
          · rw [h1, ht] at hp
            obtain rfl := Option.some.inj hp
            exact hpk⟩)
        rw [decide_eq_true hpk] at hc
        clear hpk hp hmono hmono2
        go_wp2_with fail
        refine hc.mono ?_
        rintro e w' ⟨rfl, nq, rfl⟩
        go_wp2_with fail
        go_roundg ((lo + hi) / 2 - lo)
        case measure => omega
        case rel => exact ⟨lo, (lo + hi) / 2, q + nq, rfl, by rw [show ((lo : Int) + (hi : Int)) / 2 = (((lo + hi) / 2 : Nat) : Int) by omega], by omega, by omega, Nat.le_refl _, rfl, I2⟩
      · have I2 := Lib.hid (show (∀ t p, l[t]? = some p → t < (lo + hi) / 2 + 1 → p.key < key) ∧ (∀ t p, l[t]? = some p → hi ≤ t → key ≤ p.key) from ⟨fun t p' ht h => by
          rcases Nat.lt_or_eq_of_le (Nat.le_of_lt_succ h) with h1 | h1
          · have := hmono2 t p' ht h1
            omega
          · rw [← h1, ht] at hp
            obtain rfl := Option.some.inj hp
            omega, I.out.2⟩)
        rw [decide_eq_false hpk] at hc
        clear hpk hp hmono hmono2
        go_wp2_with fail
        refine hc.mono ?_
        rintro e w' ⟨rfl, nq, rfl⟩
        go_wp2_with fail
        go_roundg (hi - ((lo + hi) / 2 + 1))
        case measure => omega
        case rel => exact ⟨(lo + hi) / 2 + 1, hi, q + nq, by rw [show ((lo : Int) + (hi : Int)) / 2 + 1 = (((lo + hi) / 2 + 1 : Nat) : Int) by omega], rfl, by omega, hin, Nat.le_refl _, rfl, I2⟩
    · obtain rfl : hi = lo := by omega
      go_wp2
      go_ret
      exact ⟨hi, rfl, ⟨by rw [hll.out]; exact hin, I.out.1, I.out.2⟩, q, rfl⟩

/-- What find returns. -/
def FindO (l : List Pr) (key : Int) (w : World) (e : Ending) (w' : World) : Prop :=
  ∃ r : Nat, e = .returned (.tuple #[.int .i64 r, .bool (look Pr.key l key).isSome]) ∧ At l key r ∧ Below w.heap.size w w'
set_option maxHeartbeats 2000000 in
theorem findO_any (l : List Pr) (g : Nat) (key : Int) (w : World) (hq : Hid (IsQ w g l)) (hs : Hid (Srt Pr.key l)) :
    Calls Try.prog 38 #[.pointer (some ⟨g, 0, none⟩), .int .u64 key] w (FindO l key w) := by
  obtain ⟨A, n, c, hB, hr, hn, hnc, hc⟩ := hq.out
  have hll := Lib.hid (prs_n hr)
  obtain ⟨W, hW⟩ : ∃ W, W = (w.alloc (.cells #[.pointer (some ⟨g, 0, none⟩)] 28)).alloc (.cells #[.int .u64 key] 23) := ⟨_, rfl⟩
  have hb : Below w.heap.size w W := by rw [hW]; exact ((Below.refl _ w).alloc (Nat.le_refl _) _).alloc (by simp) _
  have hBW : Hid (Blk W g 77 #[.slice A n c]) := Lib.hid (hB.below hb hB.lt)
  have hrW : Hid (Reads W W.heap.size 2 A n (prs l)) := Lib.hid ((hr.below hb).more hb.size)
  have hm : W.cell? ⟨w.heap.size, 0, none⟩ = some (.pointer (some ⟨g, 0, none⟩)) := by
    rw [hW, World.cell?_alloc_past _ _ _ (by simp), World.cell?_alloc_at _ _ _ _ rfl]
    rfl
  have hk : W.cell? ⟨w.heap.size + 1, 0, none⟩ = some (.int .u64 key) := by
    rw [hW, World.cell?_alloc_at _ _ _ _ (by simp)]
    rfl
  have hS := search_walk l A n c g w.heap.size (w.heap.size + 1) key W hBW hrW hs hn hm hk
  have hg : w.cell? ⟨g, 0, none⟩ = some (.slice A n c) := by simpa using hB.cell 0
  have hgl := hB.lt
  have hg' : W.cell? ⟨g, 0, none⟩ = some (.slice A n c) := by rw [hb.cell hgl]; exact hg
  have hB := Lib.hid hB
  have hr := Lib.hid hr
  have hb := Lib.hid hb
  clear hq
  go_enter Try.func38, Try.ntmps38
  go_wp2_with fail
  rw [← hW]
  refine hS.mono ?_
  rintro e w' ⟨r, rfl, ha, q, rfl⟩
  clear hW hS
  have hat := Lib.hid ha
  have hrn : r ≤ n := by have := ha.1; rw [hll.out] at this; exact this
  clear ha
  have hbq : Hid (∀ m, Below w.heap.size w (W.drewN m)) := Lib.hid (fun m => below_drewN hb.out m)
  have j0 : (0 : Int) ≤ (r : Int) := by omega
  rcases Nat.lt_or_eq_of_le hrn with hlt | rfl
  · obtain ⟨b, o, rfl, hbB⟩ := reads_head hrW.out (by omega) (by decide)
    obtain ⟨p, hx, p0, p1⟩ := prs_at hrW.out hlt
    have hlk := Lib.hid (at_look hs.out hat.out hx)
    obtain ⟨pk, pv⟩ := p
    dsimp only at p0 p1 hlk
    have j1 : (r : Int) < (n : Int) := by omega
    have hd1 : decide ((r : Int) < (n : Int)) = true := decide_eq_true j1
    clear hx
    by_cases he : pk = key
    · subst he
      have hd : (pk == pk) = true := by simp
      go_wp2_with fail
      go_quiet (fail)
      all_goals go_wp2_with fail
      all_goals go_ret2
      all_goals exact ⟨r, by rw [hlk.out]; simp, hat.out, below_drewN (hbq.out _) _⟩
    · have hd : (pk == key) = false := by simpa using he
      go_wp2_with fail
      go_quiet (fail)
      all_goals go_wp2_with fail
      all_goals go_ret2
      all_goals exact ⟨r, by rw [hlk.out, if_neg he]; rfl, hat.out, below_drewN (hbq.out _) _⟩
  · have hd1 : decide ((r : Int) < (r : Int)) = false := by simp
    have hnone := Lib.hid (at_end (by rw [hll.out]; exact hat.out))
    go_wp2_with fail
    go_quiet (fail)
    all_goals go_wp2_with fail
    all_goals go_ret2
    all_goals exact ⟨r, by rw [hnone.out]; rfl, hat.out, below_drewN (hbq.out _) _⟩
end Go.Proofs.Ytfghkmhabpagkaa
