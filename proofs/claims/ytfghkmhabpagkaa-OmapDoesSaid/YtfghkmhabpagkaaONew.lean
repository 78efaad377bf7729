/- The program's map, walked: New. -/
import Derived.Test.YtfghkmhabpagkaaOMove
namespace Go.Proofs.Ytfghkmhabpagkaa
open Go Go.RowKit
set_option linter.unusedVariables false

/-- No key stands twice among the first k pairs. -/
def NoDup (l : List Pr) (k : Nat) : Prop := ∀ j p, l[j]? = some p → j < k → look Pr.key (puts [] (l.take j)) p.key = none
theorem NoDup.step {l : List Pr} {k : Nat} {p : Pr} (h : NoDup l k) (hp : l[k]? = some p) (hn : look Pr.key (puts [] (l.take k)) p.key = none) : NoDup l (k + 1) := fun j q hq hj => by
  rcases Nat.lt_or_eq_of_le (Nat.le_of_lt_succ hj) with h1 | rfl
  · exact h j q hq h1
  · rw [hp] at hq
    obtain rfl := Option.some.inj hq
    exact hn
/-- What New returns. -/
def NewEnd (l : List Pr) (w : World) (e : Ending) (w' : World) : Prop :=
  Below w.heap.size w w' ∧ ((NoDup l l.length ∧ ∃ g v, e = .returned (.tuple #[.pointer (some ⟨g, 0, none⟩), .int .i64 0]) ∧ IsO w' w.heap.size g v (puts [] l)) ∨
    (¬ NoDup l l.length ∧ e = .returned (.tuple #[.pointer none, .int .i64 9])))
def NewInv (l : List Pr) (k : Nat) (w wr : World) : Prop := (∃ v', IsO wr w.heap.size w.heap.size v' (puts [] (l.take k))) ∧ Below w.heap.size w wr ∧ NoDup l k ∧ w.heap.size < wr.heap.size

set_option maxRecDepth 100000 in
set_option maxHeartbeats 4000000 in
theorem newO_any (l : List Pr) (A : Option Addr) (n c : Nat) (w : World) (hr : Hid (Reads w w.heap.size 2 A n (prs l))) (hn : n ≤ 400000) :
    Calls Try.prog 20 #[.slice A n c] w (NewEnd l w) := by
  have hll := Lib.hid (prs_n hr.out)
  have h0 : Hid (NewInv l 0 w (w.alloc (.cells #[.slice none 0 0] 77))) :=
    Lib.hid ⟨⟨.slice none 0 0, Nat.le_refl _, Blk.new _ _ _, World.ownsRow_nil _ _ _ _, srt_nil, by simp [puts]⟩, (Below.refl _ _).alloc (Nat.le_refl _) _, fun j p _ h => absurd h (by omega), by simp⟩
  go_enter Try.func20, Try.ntmps20
  go_wp2_with fail
  go_loopw [13] (fun i wr => ∃ k : Nat, k ≤ n ∧ i = .int .i64 k ∧ Hid (NewInv l k w wr)) (fun i _ => n - (intOf i).toNat)
  case atStart => exact ⟨0, by omega, rfl, h0.out⟩
  case round =>
    clear h0
    obtain ⟨k, hk, rfl, hI⟩ := hrel
    have j0 : (0 : Int) ≤ (k : Int) := by omega
    by_cases hlt : k < n
    · obtain ⟨⟨v', ho⟩, hb, hnd, hsz⟩ := hI.out
      have hrr := hr.out.below hb
      obtain ⟨b, o, rfl, hbB⟩ := reads_head hrr (by omega) (by decide)
      obtain ⟨p, hx, p0, p1⟩ := prs_at hrr hlt
      have hst := puts_step' (base := []) hx
      have hstep := fun h => hnd.step hx h
      have hbw : Below wr.heap.size wr (wr.alloc (.cells #[.int .u64 p.key, .int .u64 p.val] 38)) := (Below.refl _ _).alloc (Nat.le_refl _) _
      have ho1 := ho.below hbw
      have hbb : b < wr.heap.size := by omega
      have hfind := findO_any (puts [] (l.take k)) w.heap.size p.key _ (Lib.hid ho1.q) (Lib.hid ho1.srt)
      have hBp := Blk.new wr 38 #[.int .u64 p.key, .int .u64 p.val]
      have hpl : (puts [] (l.take k)).length ≤ 800000 := by
        have h1 := puts_len (l.take k) []
        have h2 : (l.take k).length ≤ k := List.length_take_le _ _
        simp at h1
        omega
      have hH := Lib.hid (And.intro ho1 (And.intro hb (And.intro hst (And.intro hstep (And.intro hx (And.intro hbw hBp))))))
      obtain ⟨pk, pv⟩ := p
      dsimp only at p0 p1 hfind
      have j1 : (k : Int) < (n : Int) := by omega
      clear hx hst hstep ho hb hnd hsz hrr ho1 hbw hBp hI
      go_wp2_with fail
      refine hfind.mono ?_
      rintro e w2 ⟨r, rfl, hat, hb2⟩
      rcases hlk : look Pr.key (puts [] (l.take k)) pk with _ | q
      · obtain ⟨ho1, hb, hst, hstep, hx, hbw, hBp⟩ := hH.out
        have hsz2 := hb2.size
        have hszw := hbw.size
        have hszb := hb.size
        have ho2 := ho1.below hb2
        have hBp2 := hBp.below hb2 hBp.lt
        have q0 := hBp2.cell 0
        have q1 := hBp2.cell 1
        simp at q0 q1
        have hset := setO_any (puts [] (l.take k)) w.heap.size w.heap.size v' pk pv w2 ho2 hpl
        have hbw2 : Below w.heap.size w w2 := hb.trans ((hbw.mono hszb).trans (hb2.mono (by omega)))
        have hK := Lib.hid (And.intro ho2 (And.intro hbw2 (And.intro hst (hstep hlk))))
        clear ho1 hb hst hstep hx hbw hBp hH ho2 hBp2 hbw2 hfind hb2 hlk hat hsz2 hszw hszb
        dsimp only [Option.isSome]
        go_wp2_with fail
        refine hset.mono ?_
        rintro e w3 ⟨⟨x, rfl⟩, v3, h1, h2, h3⟩
        have hI3 : Hid (NewInv l (k + 1) w w3) := by
          obtain ⟨ho2, hbw2, hst, hnd⟩ := hK.out
          refine Lib.hid ⟨⟨v3, by rw [hst]; exact h1⟩, h2.below hbw2 hbw2.size (Nat.le_refl _) ho2.row_lo, hnd, ?_⟩
          have := ho2.blk.lt
          have := h2.size
          omega
        clear hK hset h1 h2 h3 q0 q1
        go_wp2_with fail
        go_roundw
        case rel => exact ⟨k + 1, by omega, by go_num, hI3⟩
        case measure => simp [intOf]; omega
      · have hend : Hid (NewEnd l w (.returned (.tuple #[.pointer none, .int .i64 9])) w2) := by
          obtain ⟨ho1, hb, hst, hstep, hx, hbw, hBp⟩ := hH.out
          refine Lib.hid ⟨hb.trans ((hbw.mono hb.size).trans (hb2.mono (by have := hb.size; have := hbw.size; omega))), .inr ⟨fun hnd => ?_, rfl⟩⟩
          have := hnd k _ hx (by rw [hll.out]; exact hlt)
          rw [this] at hlk
          cases hlk
        clear hH hfind hb2 hat
        dsimp only [Option.isSome]
        go_wp2_with fail
        go_ret2
        exact hend.out
    · obtain rfl : k = n := by omega
      have hend : Hid (NewEnd l w (.returned (.tuple #[.pointer (some ⟨w.heap.size, 0, none⟩), .int .i64 0])) wr) := by
        obtain ⟨⟨v', ho⟩, hb, hnd, hsz⟩ := hI.out
        rw [List.take_of_length_le (by rw [hll.out]; exact Nat.le_refl _)] at ho
        exact Lib.hid ⟨hb, .inl ⟨by rw [hll.out]; exact hnd, _, v', rfl, ho⟩⟩
      clear hI
      go_wp2_with fail
      go_ret2
      exact hend.out
theorem puts_sorted {l : List Pr} (h : Srt Pr.key l) : puts [] l = l := by
  have h1 := puts_spec l [] h srt_nil
  refine srt_ext h1.1 h fun k => ?_
  rw [h1.2 k]
  rcases look Pr.key l k with _ | t <;> rfl
theorem noDup_sorted {l : List Pr} (h : Srt Pr.key l) (n : Nat) : NoDup l n := by
  intro j p hp hj
  rw [puts_sorted (List.Pairwise.sublist (List.take_sublist j l) h), look_none]
  intro q hq e
  obtain ⟨t, ht⟩ := List.getElem?_of_mem hq
  rw [List.getElem?_take] at ht
  split at ht
  · have := h.lt_of ht hp (by omega)
    omega
  · cases ht
end Go.Proofs.Ytfghkmhabpagkaa
