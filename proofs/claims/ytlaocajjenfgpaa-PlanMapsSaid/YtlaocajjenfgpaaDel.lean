/- Ascending pairs, spans, checked and Delete, walked (printed by gen_del.py). -/
import Derived.Test.YtlaocajjenfgpaaInv
import Derived.Test.YtlaocajjenfgpaaDraws
namespace Go.Proofs.Ytlaocajjenfgpaa
open Go Go.RowKit
set_option linter.unusedVariables false

/-- The keys of pairs strictly increase. -/
abbrev Asc (l : List Pr) : Prop := Srt Pr.key l
/-- Neighbours in order, as far as k. -/
def AscTo (l : List Pr) (k : Nat) : Prop := ∀ i a b, i + 1 < k → l[i]? = some a → l[i + 1]? = some b → a.key < b.key
theorem ascTo_one (l : List Pr) : AscTo l 1 := fun i a b h => absurd h (by omega)
theorem ascTo_succ {l : List Pr} {m : Nat} {p q : Pr} (h : AscTo l (m + 1)) (hp : l[m]? = some p) (hq : l[m + 1]? = some q) (hk : p.key < q.key) : AscTo l (m + 2) := fun i a b hi ha hb => by
  by_cases e : i = m
  · subst e
    obtain rfl := Option.some.inj (hp.symm.trans ha)
    obtain rfl := Option.some.inj (hq.symm.trans hb)
    exact hk
  · exact h i a b (by omega) ha hb
theorem asc_of {l : List Pr} {k : Nat} (h : AscTo l k) (hk : l.length ≤ k) : Asc l := srt_of_next fun i a b ha hb => h i a b (by have := (List.getElem?_eq_some_iff.1 hb).1; omega) ha hb
theorem not_asc {l : List Pr} {m : Nat} {p q : Pr} (hp : l[m]? = some p) (hq : l[m + 1]? = some q) (hk : ¬ p.key < q.key) : ¬ Asc l := fun h => hk (srt_next h hp hq)
def AscEnd (l : List Pr) (w : World) (e : Ending) (w' : World) : Prop :=
  (Asc l → e = .returned (.bool true)) ∧ (¬ Asc l → e = .returned (.bool false)) ∧ Below w.heap.size w w'

set_option maxHeartbeats 1000000 in
theorem asc_any (l : List Pr) (A : Option Addr) (n c : Nat) (w : World) (hr : Hid (Reads w w.heap.size 2 A n (prs l))) (hn : n ≤ 4611686018427387904) :
    Calls Try.prog 48 #[.slice A n c] w (AscEnd l w) := by
  have hlen := Lib.hid (prs_n hr.out)
  go_enter Try.func48, Try.ntmps48
  go_wp2_with fail
  go_loopw [3] (fun i wr => ∃ m : Nat, m ≤ n ∧ i = .int .i64 (m + 1) ∧ Hid (Below w.heap.size w wr) ∧ Hid (AscTo l (m + 1))) (fun i _ => n + 1 - (intOf i).toNat)
  case atStart => exact ⟨0, by omega, rfl, Below.refl _ _, ascTo_one l⟩
  case round =>
    obtain ⟨m, hk, rfl, hbel, hall⟩ := hrel
    have hsz := Lib.hid hbel.out.size
    by_cases hlt : m + 1 < n
    · obtain ⟨b, o, rfl, hbB⟩ := reads_head hr.out (by omega) (by decide)
      have hbw : b < wr.heap.size := by have := hsz.out; omega
      obtain ⟨p, hp, p0, p1⟩ := prs_at (k := m) (hr.out.below hbel.out) (by omega)
      obtain ⟨q, hq, q0, q1⟩ := prs_at (k := m + 1) (hr.out.below hbel.out) hlt
      have hs := Lib.hid (fun h => ascTo_succ hall.out hp hq h)
      have hno := Lib.hid (fun h => not_asc hp hq h)
      obtain ⟨pk, pv⟩ := p
      obtain ⟨qk, qv⟩ := q
      dsimp only at p0 p1 q0 q1
      have i0 : (0 : Int) ≤ (m : Int) := by omega
      have i1 : (m : Int) + 1 < (n : Int) := by omega
      have iw : IntKind.i64.wrap ((m : Int) + 1 - 1) = (m : Int) := by rw [IntWalk.i64_in _ (by omega)]; omega
      clear hp hq hall
      by_cases hord : pk < qk
      · have hd : decide (qk ≤ pk) = false := by simp; omega
        go_wp2_with fail
        go_quiet (fail)
        go_wp2
        go_roundw
        case rel => exact ⟨m + 1, by omega, by go_num, below_drewN hbel.out _, hs.out hord⟩
        case measure => simp [intOf]; omega
      · have hd : decide (qk ≤ pk) = true := by simp; omega
        go_wp2_with fail
        go_quiet (fail)
        go_wp2
        go_ret
        exact ⟨fun h => absurd h (hno.out hord), fun _ => rfl, below_drewN hbel.out _⟩
    · have hA := Lib.hid (asc_of hall.out (by have := hlen.out; omega))
      go_wp2
      go_ret
      exact ⟨fun _ => rfl, fun h => absurd hA.out h, hbel.out⟩

set_option maxHeartbeats 1000000 in
theorem ascL_any (l : List Pr) (A : Option Addr) (n c : Nat) (w : World) (hr : Hid (Reads w w.heap.size 2 A n (prs l))) (hn : n ≤ 4611686018427387904) :
    Calls Try.prog 30 #[.slice A n c] w (AscEnd l w) := by
  have hlen := Lib.hid (prs_n hr.out)
  go_enter Try.func30, Try.ntmps30
  go_wp2_with fail
  go_loopw [3] (fun i wr => ∃ m : Nat, m ≤ n ∧ i = .int .i64 (m + 1) ∧ Hid (Below w.heap.size w wr) ∧ Hid (AscTo l (m + 1))) (fun i _ => n + 1 - (intOf i).toNat)
  case atStart => exact ⟨0, by omega, rfl, Below.refl _ _, ascTo_one l⟩
  case round =>
    obtain ⟨m, hk, rfl, hbel, hall⟩ := hrel
    have hsz := Lib.hid hbel.out.size
    by_cases hlt : m + 1 < n
    · obtain ⟨b, o, rfl, hbB⟩ := reads_head hr.out (by omega) (by decide)
      have hbw : b < wr.heap.size := by have := hsz.out; omega
      obtain ⟨p, hp, p0, p1⟩ := prs_at (k := m) (hr.out.below hbel.out) (by omega)
      obtain ⟨q, hq, q0, q1⟩ := prs_at (k := m + 1) (hr.out.below hbel.out) hlt
      have hs := Lib.hid (fun h => ascTo_succ hall.out hp hq h)
      have hno := Lib.hid (fun h => not_asc hp hq h)
      obtain ⟨pk, pv⟩ := p
      obtain ⟨qk, qv⟩ := q
      dsimp only at p0 p1 q0 q1
      have i0 : (0 : Int) ≤ (m : Int) := by omega
      have i1 : (m : Int) + 1 < (n : Int) := by omega
      have iw : IntKind.i64.wrap ((m : Int) + 1 - 1) = (m : Int) := by rw [IntWalk.i64_in _ (by omega)]; omega
      clear hp hq hall
      by_cases hord : pk < qk
      · have hd : decide (qk ≤ pk) = false := by simp; omega
        go_wp2_with fail
        go_quiet (fail)
        go_wp2
        go_roundw
        case rel => exact ⟨m + 1, by omega, by go_num, below_drewN hbel.out _, hs.out hord⟩
        case measure => simp [intOf]; omega
      · have hd : decide (qk ≤ pk) = true := by simp; omega
        go_wp2_with fail
        go_quiet (fail)
        go_wp2
        go_ret
        exact ⟨fun h => absurd h (hno.out hord), fun _ => rfl, below_drewN hbel.out _⟩
    · have hA := Lib.hid (asc_of hall.out (by have := hlen.out; omega))
      go_wp2
      go_ret
      exact ⟨fun _ => rfl, fun h => absurd hA.out h, hbel.out⟩

set_option maxHeartbeats 1000000 in
theorem ascR_any (l : List Pr) (A : Option Addr) (n c : Nat) (w : World) (hr : Hid (Reads w w.heap.size 2 A n (prs l))) (hn : n ≤ 4611686018427387904) :
    Calls Try.prog 40 #[.slice A n c] w (AscEnd l w) := by
  have hlen := Lib.hid (prs_n hr.out)
  go_enter Try.func40, Try.ntmps40
  go_wp2_with fail
  go_loopw [3] (fun i wr => ∃ m : Nat, m ≤ n ∧ i = .int .i64 (m + 1) ∧ Hid (Below w.heap.size w wr) ∧ Hid (AscTo l (m + 1))) (fun i _ => n + 1 - (intOf i).toNat)
  case atStart => exact ⟨0, by omega, rfl, Below.refl _ _, ascTo_one l⟩
  case round =>
    obtain ⟨m, hk, rfl, hbel, hall⟩ := hrel
    have hsz := Lib.hid hbel.out.size
    by_cases hlt : m + 1 < n
    · obtain ⟨b, o, rfl, hbB⟩ := reads_head hr.out (by omega) (by decide)
      have hbw : b < wr.heap.size := by have := hsz.out; omega
      obtain ⟨p, hp, p0, p1⟩ := prs_at (k := m) (hr.out.below hbel.out) (by omega)
      obtain ⟨q, hq, q0, q1⟩ := prs_at (k := m + 1) (hr.out.below hbel.out) hlt
      have hs := Lib.hid (fun h => ascTo_succ hall.out hp hq h)
      have hno := Lib.hid (fun h => not_asc hp hq h)
      obtain ⟨pk, pv⟩ := p
      obtain ⟨qk, qv⟩ := q
      dsimp only at p0 p1 q0 q1
      have i0 : (0 : Int) ≤ (m : Int) := by omega
      have i1 : (m : Int) + 1 < (n : Int) := by omega
      have iw : IntKind.i64.wrap ((m : Int) + 1 - 1) = (m : Int) := by rw [IntWalk.i64_in _ (by omega)]; omega
      clear hp hq hall
      by_cases hord : pk < qk
      · have hd : decide (qk ≤ pk) = false := by simp; omega
        go_wp2_with fail
        go_quiet (fail)
        go_wp2
        go_roundw
        case rel => exact ⟨m + 1, by omega, by go_num, below_drewN hbel.out _, hs.out hord⟩
        case measure => simp [intOf]; omega
      · have hd : decide (qk ≤ pk) = true := by simp; omega
        go_wp2_with fail
        go_quiet (fail)
        go_wp2
        go_ret
        exact ⟨fun h => absurd h (hno.out hord), fun _ => rfl, below_drewN hbel.out _⟩
    · have hA := Lib.hid (asc_of hall.out (by have := hlen.out; omega))
      go_wp2
      go_ret
      exact ⟨fun _ => rfl, fun h => absurd hA.out h, hbel.out⟩

/-! ### Spans -/
theorem span_ok (lo hi : Int) (w : World) (h : lo ≤ hi) : Calls Try.prog 57 #[.agg #[.int .u64 lo, .int .u64 hi]] w fun e w' => e = .returned (.int .i64 0) ∧ Below w.heap.size w w' := by
  go_enter Try.func57, Try.ntmps57
  go_wp2
  go_ret
  exact ⟨rfl, (Below.refl _ _).alloc (Nat.le_refl _) _⟩
theorem span_no (lo hi : Int) (w : World) (h : hi < lo) : Calls Try.prog 57 #[.agg #[.int .u64 lo, .int .u64 hi]] w fun e w' => e = .returned (.int .i64 13) ∧ Below w.heap.size w w' := by
  go_enter Try.func57, Try.ntmps57
  go_wp2
  go_ret
  exact ⟨rfl, (Below.refl _ _).alloc (Nat.le_refl _) _⟩
/-- The key is in the range. -/
def inB (lo hi k : Int) : Bool := decide (lo ≤ k) && decide (k ≤ hi)

theorem has_any (lo hi k : Int) (w : World) : Calls Try.prog 39 #[.agg #[.int .u64 lo, .int .u64 hi], .int .u64 k] w fun e w' => e = .returned (.bool (inB lo hi k)) ∧ Below w.heap.size w w' := by
  by_cases h1 : lo ≤ k
  · by_cases h2 : k ≤ hi
    · have hb : inB lo hi k = true := by simp [inB, h1, h2]
      rw [hb]
      clear hb
      go_enter Try.func39, Try.ntmps39
      go_wp2
      go_ret
      exact ⟨by simp, (Below.refl _ _).alloc (Nat.le_refl _) _⟩
    · have hb : inB lo hi k = false := by simp [inB, h2]
      rw [hb]
      clear hb
      have hd : decide (k ≤ hi) = false := by simpa using h2
      go_enter Try.func39, Try.ntmps39
      go_wp2
      go_ret
      exact ⟨by simp, (Below.refl _ _).alloc (Nat.le_refl _) _⟩
  · have hb : inB lo hi k = false := by simp [inB, h1]
    rw [hb]
    clear hb
    have hd : decide (lo ≤ k) = false := by simpa using h1
    go_enter Try.func39, Try.ntmps39
    go_wp2
    go_ret
    exact ⟨by simp, (Below.refl _ _).alloc (Nat.le_refl _) _⟩

/-! ### checked and Delete -/
/-- The pairs of a range. -/
def inR (lo hi : Int) (l : List Pr) : List Pr := l.filter fun p => inB lo hi p.key
theorem inR_yes {lo hi : Int} {l : List Pr} {k : Nat} {p : Pr} (h : l[k]? = some p) (hb : inB lo hi p.key = true) : inR lo hi (l.take (k + 1)) = inR lo hi (l.take k) ++ [p] := by
  unfold inR
  rw [List.take_add_one, h, List.filter_append]
  simp [hb]
theorem inR_no {lo hi : Int} {l : List Pr} {k : Nat} {p : Pr} (h : l[k]? = some p) (hb : inB lo hi p.key = false) : inR lo hi (l.take (k + 1)) = inR lo hi (l.take k) := by
  unfold inR
  rw [List.take_add_one, h, List.filter_append]
  simp [hb]
theorem prs_one1 (p : Pr) : prs [p] = prC p := by simp [prs]
theorem prC_one (p : Pr) : ∀ u ∈ prC p, u.oneCell' = true := by rw [← prs_one1]; exact prs_one _
theorem inR_le (lo hi : Int) (l : List Pr) : (inR lo hi l).length ≤ l.length := List.length_filter_le _ _

def CheckedEnd (l : List Pr) (lo hi : Int) (w : World) (e : Ending) (w' : World) : Prop :=
  (¬ Asc l → e = .returned (.tuple #[.slice none 0 0, .int .i64 2])) ∧ (Asc l → hi < lo → e = .returned (.tuple #[.slice none 0 0, .int .i64 13])) ∧
  (Asc l → lo ≤ hi → ∃ A c, e = .returned (.tuple #[.slice A (inR lo hi l).length c, .int .i64 0]) ∧ w'.ownsRow w.heap.size 47 2 (.slice A (inR lo hi l).length c) (inR lo hi l).length (prs (inR lo hi l))) ∧ Below w.heap.size w w'

set_option maxHeartbeats 1000000 in
theorem checked_any (l : List Pr) (A : Option Addr) (n c : Nat) (lo hi : Int) (w : World) (hr : Hid (Reads w w.heap.size 2 A n (prs l))) (hn : n ≤ 1000000) :
    Calls Try.prog 38 #[.slice A n c, .agg #[.int .u64 lo, .int .u64 hi]] w (CheckedEnd l lo hi w) := by
  obtain ⟨i0, hi0, hz0, hz1, hz2⟩ := info_parts infoPair
  have hlen := Lib.hid (prs_n hr.out)
  go_enter Try.func38, Try.ntmps38
  go_wp2_with fail
  refine (asc_any l A n c _ ((hr.out.alloc (Nat.le_refl _) _).more (by simp)) (by omega)).mono ?_
  rintro e w1 ⟨h1, h2, hb⟩
  have hb1 : Hid (Below w.heap.size w w1) := ((Below.refl _ _).alloc (Nat.le_refl _) _).trans (hb.mono (by simp))
  have hk1 : Hid (Blk w1 w.heap.size 25 #[.int .u64 lo, .int .u64 hi]) := (Blk.new w _ _).below hb (by simp)
  clear hb
  by_cases hp : Asc l
  · obtain rfl := h1 hp
    have hP := Lib.hid hp
    clear h1 h2 hp
    have l0 := hk1.out.cell 0
    have l1 := hk1.out.cell 1
    simp at l0 l1
    go_wp2_with fail
    clear l0 l1
    by_cases hlh : lo ≤ hi
    · refine (span_ok lo hi _ hlh).mono ?_
      rintro e w2 ⟨rfl, hb⟩
      have hb2 : Hid (Below w.heap.size w w2) := hb1.out.trans (hb.mono hb1.out.size)
      have hk2 : Hid (Blk w2 w.heap.size 25 #[.int .u64 lo, .int .u64 hi]) := hk1.out.below hb hk1.out.lt
      clear hb hb1 hk1
      go_wp2_with fail
      go_loopw [7, 20] (fun v i wr => ∃ k : Nat, k ≤ n ∧ i = .int .i64 k ∧ Hid (wr.ownsRow (w.heap.size + 1) 47 2 v (inR lo hi (l.take k)).length (prs (inR lo hi (l.take k)))) ∧ Hid (Below w.heap.size w wr) ∧ Hid (Blk wr w.heap.size 25 #[.int .u64 lo, .int .u64 hi])) (fun _ i _ => n - (intOf i).toNat)
      case atStart => exact ⟨0, by omega, rfl, World.ownsRow_nil _ _ _ _, hb2.out, hk2.out⟩
      case round =>
        obtain ⟨k, hk, rfl, hown, hbel, hB⟩ := hrel
        have hsz := Lib.hid hbel.out.size
        have hgl := hB.out.lt
        have L0 := hB.out.cell 0
        have L1 := hB.out.cell 1
        simp at L0 L1
        by_cases hlt : k < n
        · obtain ⟨b, o, rfl, hbB⟩ := reads_head hr.out (by omega) (by decide)
          obtain ⟨p, hx, p0, p1⟩ := prs_at (hr.out.below hbel.out) hlt
          have hfl : (inR lo hi (l.take k)).length ≤ k := Nat.le_trans (inR_le _ _ _) (List.length_take_le _ _)
          have hY := Lib.hid (fun h => inR_yes (lo := lo) (hi := hi) hx h)
          have hN := Lib.hid (fun h => inR_no (lo := lo) (hi := hi) hx h)
          obtain ⟨key, val⟩ := p
          dsimp only at p0 p1
          have j0 : (0 : Int) ≤ (k : Int) := by omega
          have j1 : (k : Int) < (n : Int) := by omega
          have hbw : b < wr.heap.size := by have := hsz.out; omega
          clear hx
          go_wp2_with fail
          refine (has_any lo hi key _).mono ?_
          rintro e w3 ⟨rfl, hb⟩
          have hb3 : Hid (Below wr.heap.size wr w3) := ((Below.refl _ _).alloc (Nat.le_refl _) _).trans (hb.mono (by simp))
          have hk3 := (Blk.new wr 47 #[.int .u64 key, .int .u64 val]).below hb (by simp)
          have hs3 : wr.heap.size < w3.heap.size := by have := hb.size; simp at this; omega
          have hB3 : Hid (Blk w3 w.heap.size 25 #[.int .u64 lo, .int .u64 hi]) := hB.out.below hb3.out hgl
          have ho3 := Lib.hid (own_below hown.out hb3.out)
          have hbel3 : Hid (Below w.heap.size w w3) := hbel.out.trans (hb3.out.mono hsz.out)
          have q0 := hk3.cell 0
          have q1 := hk3.cell 1
          simp at q0 q1
          clear hb hk3 L0 L1 p0 p1 hbel hB hb3
          rcases hin : inB lo hi key with _ | _
          · have hN' := Lib.hid (hN.out hin)
            clear hin hY hN
            go_wp2_with fail
            go_roundw
            case rel => exact ⟨k + 1, by omega, by go_num, by rw [hN'.out]; exact ho3.out, hbel3, hB3⟩
            case measure => simp [intOf]; omega
          · have hY' := Lib.hid (hY.out hin)
            clear hin hY hN
            have hz3 := Lib.hid hbel3.out.size
            go_wp2_with (at_builtin; refine wpList_append_any _ rfl (.tmp 28) (.tmp 30) 22 rfl (w.heap.size + 1) 47 i0 _ 2 16 Try.underlying22 hi0 hz0 hz1 hz2 rfl (by decide) u7 _ _ rfl (ho3.out.alloc _) (w3.heap.size + 1) (some ⟨w3.heap.size, 0, none⟩) 1 1 (prC ⟨key, val⟩) rfl ((reads_at w3 _ (prC ⟨key, val⟩) 1 _ rfl rfl).more (by simp)) (prC_one _) (by unfold maxLen; omega) (by omega) (by simp; omega) ?_; intro v1 w4 hown1 hg1 hat1)
            have hne : u7.ownBlock ≠ some w.heap.size := fun h => by have := (ho3.out.lt _ h).1; omega
            have hbel4 : Hid (Below w.heap.size w w4) := (hbel3.out.alloc hz3.out _).grown hg1 (by have := hz3.out; simp; omega) (fun q hq => by have := (ho3.out.lt q hq).1; omega)
            have hB4 : Hid (Blk w4 w.heap.size 25 #[.int .u64 lo, .int .u64 hi]) := (hB3.out.alloc _).grown hg1 (fun h => hne h.symm)
            have ho4 : Hid (w4.ownsRow (w.heap.size + 1) 47 2 v1 (inR lo hi (l.take (k + 1))).length (prs (inR lo hi (l.take (k + 1))))) := by
              unfold Hid
              rw [hY'.out, List.length_append, prs_append, prs_one1]
              exact hown1
            clear hown1 hg1 hat1 hne
            go_wp2
            go_roundw
            case rel => exact ⟨k + 1, by omega, by go_num, ho4, hbel4, hB4⟩
            case measure => simp [intOf]; omega
        · obtain rfl : k = n := by omega
          have htk : l.take k = l := List.take_of_length_le (by have := hlen.out; omega)
          have ho := hown.out
          rw [htk] at ho
          have hO := Lib.hid (own_base ho (Nat.le_succ _))
          obtain ⟨A', c', rfl, _⟩ := own_form ho
          clear ho htk
          go_wp2
          go_ret2
          exact ⟨fun h => absurd hP.out h, fun _ h => by omega, fun _ _ => ⟨A', c', rfl, hO.out⟩, hbel.out⟩
    · refine (span_no lo hi _ (by omega)).mono ?_
      rintro e w2 ⟨rfl, hb⟩
      have hb2 : Hid (Below w.heap.size w w2) := hb1.out.trans (hb.mono hb1.out.size)
      clear hb
      go_wp2
      go_ret2
      exact ⟨fun h => absurd hP.out h, fun _ _ => rfl, fun _ h => by omega, hb2.out⟩
  · obtain rfl := h2 hp
    have hP := Lib.hid hp
    clear h1 h2 hp
    go_wp2
    go_ret2
    exact ⟨fun _ => rfl, fun h => absurd h hP.out, fun h => absurd h hP.out, hb1.out⟩
end Go.Proofs.Ytlaocajjenfgpaa
