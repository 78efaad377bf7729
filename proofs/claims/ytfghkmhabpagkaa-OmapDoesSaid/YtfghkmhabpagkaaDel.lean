/- Ascending pairs, spans, checked and Delete, walked (printed by gen_del.py). -/
import Derived.Test.YtfghkmhabpagkaaInv
import Derived.Test.YtfghkmhabpagkaaDraws
namespace Go.Proofs.Ytfghkmhabpagkaa
open Go Go.RowKit
set_option linter.unusedVariables false

/-- The keys of pairs strictly increase. -/
abbrev Asc (l : List Pr) : Prop := Srt Pr.key l
/-- Neighbours in order, as far as k. -/
def AscTo (l : List Pr) (k : Nat) : Prop := ∀ i a b, i + 1 < k → l[i]? = some a → l[i + 1]? = some b → a.key < b.key
theorem ascTo_one (l : List Pr) : AscTo l 1 := fun i a b h => absurd h (by omega)
theorem ascTo_succ {l : List Pr} {m : Nat} {p q : Pr} (h : AscTo l (m + 1)) (hp : l[m]? = some p) (hq : l[m + 1]? = some q) (hk : p.key < q.key) : AscTo l (m + 2) := fun i a b hi ha hb => by
  by_cases e : i = m
  · subst e
    obtain rfl := Option.some.inj (hp.symm.trans ha)
    obtain rfl := Option.some.inj (hq.symm.trans hb)
    exact hk
  · exact h i a b (by omega) ha hb
theorem asc_of {l : List Pr} {k : Nat} (h : AscTo l k) (hk : l.length ≤ k) : Asc l := srt_of_next fun i a b ha hb => h i a b (by have := (List.getElem?_eq_some_iff.1 hb).1; omega) ha hb
theorem not_asc {l : List Pr} {m : Nat} {p q : Pr} (hp : l[m]? = some p) (hq : l[m + 1]? = some q) (hk : ¬ p.key < q.key) : ¬ Asc l := fun h => hk (srt_next h hp hq)
def AscEnd (l : List Pr) (w : World) (e : Ending) (w' : World) : Prop :=
  (Asc l → e = .returned (.bool true)) ∧ (¬ Asc l → e = .returned (.bool false)) ∧ Below w.heap.size w w'

set_option maxHeartbeats 1000000 in
theorem ascL_any (l : List Pr) (A : Option Addr) (n c : Nat) (w : World) (hr : Hid (Reads w w.heap.size 2 A n (prs l))) (hn : n ≤ 4611686018427387904) :
    Calls Try.prog 15 #[.slice A n c] w (AscEnd l w) := by
  have hlen := Lib.hid (prs_n hr.out)
  go_enter Try.func15, Try.ntmps15
  go_wp2_with fail
  go_loopw [3] (fun i wr => ∃ m : Nat, m ≤ n ∧ i = .int .i64 (m + 1) ∧ Hid (Below w.heap.size w wr) ∧ Hid (AscTo l (m + 1))) (fun i _ => n + 1 - (intOf i).toNat)
  case atStart => exact ⟨0, by omega, rfl, Below.refl _ _, ascTo_one l⟩
  case round =>
    obtain ⟨m, hk, rfl, hbel, hall⟩ := hrel
    have hsz := Lib.hid hbel.out.size
    by_cases hlt : m + 1 < n
    · obtain ⟨b, o, rfl, hbB⟩ := reads_head hr.out (by omega) (by decide)
      have hbw : b < wr.heap.size := by have := hsz.out; omega
      obtain ⟨p, hp, p0, p1⟩ := prs_at (k := m) (hr.out.below hbel.out) (by omega)
      obtain ⟨q, hq, q0, q1⟩ := prs_at (k := m + 1) (hr.out.below hbel.out) hlt
      have hs := Lib.hid (fun h => ascTo_succ hall.out hp hq h)
      have hno := Lib.hid (fun h => not_asc hp hq h)
      obtain ⟨pk, pv⟩ := p
      obtain ⟨qk, qv⟩ := q
      dsimp only at p0 p1 q0 q1
      have i0 : (0 : Int) ≤ (m : Int) := by omega
      have i1 : (m : Int) + 1 < (n : Int) := by omega
      have iw : IntKind.i64.wrap ((m : Int) + 1 - 1) = (m : Int) := by rw [IntWalk.i64_in _ (by omega)]; omega
      clear hp hq hall
      by_cases hord : pk < qk
      · have hd : decide (qk ≤ pk) = false := by simp; omega
        go_wp2_with fail
        go_quiet (fail)
        go_wp2
        go_roundw
        case rel => exact ⟨m + 1, by omega, by go_num, below_drewN hbel.out _, hs.out hord⟩
        case measure => simp [intOf]; omega
      · have hd : decide (qk ≤ pk) = true := by simp; omega
        go_wp2_with fail
        go_quiet (fail)
        go_wp2
        go_ret
        exact ⟨fun h => absurd h (hno.out hord), fun _ => rfl, below_drewN hbel.out _⟩
    · have hA := Lib.hid (asc_of hall.out (by have := hlen.out; omega))
      go_wp2
      go_ret
      exact ⟨fun _ => rfl, fun h => absurd hA.out h, hbel.out⟩

/-! ### Spans -/
theorem span_ok (lo hi : Int) (w : World) (h : lo ≤ hi) : Calls Try.prog 52 #[.agg #[.int .u64 lo, .int .u64 hi]] w fun e w' => e = .returned (.int .i64 0) ∧ Below w.heap.size w w' := by
  go_enter Try.func52, Try.ntmps52
  go_wp2
  go_ret
  exact ⟨rfl, (Below.refl _ _).alloc (Nat.le_refl _) _⟩
theorem span_no (lo hi : Int) (w : World) (h : hi < lo) : Calls Try.prog 52 #[.agg #[.int .u64 lo, .int .u64 hi]] w fun e w' => e = .returned (.int .i64 13) ∧ Below w.heap.size w w' := by
  go_enter Try.func52, Try.ntmps52
  go_wp2
  go_ret
  exact ⟨rfl, (Below.refl _ _).alloc (Nat.le_refl _) _⟩
/-- The key is in the range. -/
def inB (lo hi k : Int) : Bool := decide (lo ≤ k) && decide (k ≤ hi)

/-! ### checked and Delete -/
/-- The pairs of a range. -/
def inR (lo hi : Int) (l : List Pr) : List Pr := l.filter fun p => inB lo hi p.key
theorem inR_yes {lo hi : Int} {l : List Pr} {k : Nat} {p : Pr} (h : l[k]? = some p) (hb : inB lo hi p.key = true) : inR lo hi (l.take (k + 1)) = inR lo hi (l.take k) ++ [p] := by
  unfold inR
  rw [List.take_add_one, h, List.filter_append]
  simp [hb]
theorem inR_no {lo hi : Int} {l : List Pr} {k : Nat} {p : Pr} (h : l[k]? = some p) (hb : inB lo hi p.key = false) : inR lo hi (l.take (k + 1)) = inR lo hi (l.take k) := by
  unfold inR
  rw [List.take_add_one, h, List.filter_append]
  simp [hb]
theorem prs_one1 (p : Pr) : prs [p] = prC p := by simp [prs]
theorem prC_one (p : Pr) : ∀ u ∈ prC p, u.oneCell' = true := by rw [← prs_one1]; exact prs_one _
theorem inR_le (lo hi : Int) (l : List Pr) : (inR lo hi l).length ≤ l.length := List.length_filter_le _ _

def CheckedEnd (l : List Pr) (lo hi : Int) (w : World) (e : Ending) (w' : World) : Prop :=
  (¬ Asc l → e = .returned (.tuple #[.slice none 0 0, .int .i64 2])) ∧ (Asc l → hi < lo → e = .returned (.tuple #[.slice none 0 0, .int .i64 13])) ∧
  (Asc l → lo ≤ hi → ∃ A c, e = .returned (.tuple #[.slice A (inR lo hi l).length c, .int .i64 0]) ∧ w'.ownsRow w.heap.size 38 2 (.slice A (inR lo hi l).length c) (inR lo hi l).length (prs (inR lo hi l))) ∧ Below w.heap.size w w'

end Go.Proofs.Ytfghkmhabpagkaa
