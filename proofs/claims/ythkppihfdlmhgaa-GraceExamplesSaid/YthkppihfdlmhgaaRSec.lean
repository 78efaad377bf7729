/- The reference's Sections and Waits, walked (printed by gen_rsec.py). -/
import Derived.Test.YthkppihfdlmhgaaRCheck
import Derived.Test.YthkppihfdlmhgaaSecW
namespace Go.Proofs.Ythkppihfdlmhgaa
open Go Go.RowKit
set_option linter.unusedVariables false

theorem ckIs_cases {l : List Ev} {a er : Int} (h : CkIs l a er) : (er = 15 ∧ ¬ FineTo l l.length) ∨ (er = 0 ∧ FineTo l l.length) := by
  rcases h with ⟨i, e, he, hf, hg, rfl, rfl⟩ | ⟨hf, rfl, rfl⟩
  · exact .inl ⟨rfl, fun h => by rw [h i e (List.getElem?_eq_some_iff.1 he).1 he] at hg; cases hg⟩
  · exact .inr ⟨rfl, hf⟩
/-- What Sections and Waits return. -/
def SecEnd (T : TypeId) (q : Int) (l : List Ev) (w : World) (e : Ending) (w' : World) : Prop :=
  (∃ v, FineTo l l.length ∧ e = .returned (.tuple #[v, .int .i64 0]) ∧ w'.ownsRow w.heap.size T 4 v (secsK q l).length (secs (secsK q l)) ∧ Below w.heap.size w w') ∨
  (¬ FineTo l l.length ∧ e = .returned (.tuple #[.slice none 0 0, .int .i64 15]) ∧ Below w.heap.size w w')

set_option maxRecDepth 100000 in
set_option maxHeartbeats 4000000 in
theorem rsections_any (l : List Ev) (A : Option Addr) (n c : Nat) (w : World) (hr : Hid (Reads w w.heap.size 4 A n (evs l))) (hn : n ≤ 65536) :
    Calls Try.prog 23 #[.slice A n c] w (SecEnd 43 1 l w) := by
  have hl := Lib.hid (evs_n hr.out)
  obtain ⟨i0, hi0, hz0, hz1, hz2⟩ := info_parts infoSec
  go_enter Try.func23, Try.ntmps23
  go_wp2_with fail
  refine (rcheck_any l A n c _ hr hn).mono ?_
  rintro e w1 ⟨a, er, rfl, hck, hb⟩
  have hb1 := Lib.hid hb
  clear hb
  rcases ckIs_cases hck with ⟨rfl, hbad⟩ | ⟨rfl, hfine⟩
  · have hB := Lib.hid hbad
    clear hck hbad
    go_wp2_with fail
    go_ret2
    exact .inr ⟨hB.out, rfl, hb1.out⟩
  have hF := Lib.hid hfine
  clear hck hfine
  go_wp2_with fail
  go_loopg [6, 7] n (fun g v i wr => ∃ (k : Nat) (os : List Sec), k + g = n ∧ i = .int .i64 k ∧ os.length ≤ k ∧ Hid (secsK 1 l = os ++ secsK 1 (l.drop k)) ∧ Hid (wr.ownsRow w.heap.size 43 4 v os.length (secs os)) ∧ Hid (Below w.heap.size w wr))
  case atStart => exact ⟨0, [], by omega, rfl, Nat.le_refl _, rfl, World.ownsRow_nil _ _ _ _, hb1⟩
  case round =>
    obtain ⟨k, os, hk, rfl, hol, hS, hown, hbel⟩ := hrel
    cases gk with
    | zero =>
      obtain rfl : k = n := by omega
      have hz : Hid (secsK 1 l = os) := by
        unfold Hid
        rw [hS.out, List.drop_of_length_le (by rw [hl.out]; exact Nat.le_refl _)]
        simp [secsK]
      go_wp2_with fail
      go_ret2
      exact .inl ⟨_, hF.out, rfl, by rw [hz.out]; exact hown.out, hbel.out⟩
    | succ g =>
      obtain ⟨b, o, rfl, hbB⟩ := reads_head hr.out (by omega) (by decide)
      have hsz := Lib.hid hbel.out.size
      have hbw : b < wr.heap.size := by have := hsz.out; omega
      obtain ⟨⟨es, et, ek, ev⟩, he0, c0, c1, c2, c3⟩ := ev_at (hr.out.below hbel.out) (show k < n by omega)
      have he := Lib.hid he0
      have hd := secsK_drop (q := 1) he0
      clear he0
      dsimp only at c0 c1 c2 c3 hd
      have k0 : (0 : Int) ≤ (k : Int) := by omega
      have k1 : (k : Int) < (n : Int) := by omega
      by_cases hkq : ek = 1
      · rw [if_pos hkq] at hd
        subst hkq
        have hS2 : Hid (secsK 1 l = (os ++ [(⟨et, ev, es, nextOf et (l.drop (k + 1))⟩ : Sec)]) ++ secsK 1 (l.drop (k + 1))) := Lib.hid (by rw [hS.out, hd]; simp)
        clear hd hS
        have hen := ends_any l (some ⟨b, o, none⟩) n c k _ wr.drew ((hr.out.below hbel.out.drew).more hsz.out) hn he.out
        dsimp only at hen
        generalize nextOf et (l.drop (k + 1)) = nx at hS2 hen
        go_wp2_with fail
        have hne : Hid (u6.ownBlock ≠ some b) := fun h => by have := (hown.out.lt b h).1; omega
        go_region_held3 (fun w' => w'.cell? ⟨b, o + k * 4, none⟩ = some (.int .i64 es) ∧ w'.cell? ⟨b, o + k * 4 + 1, none⟩ = some (.int .i64 et) ∧ w'.cell? ⟨b, o + k * 4 + 3, none⟩ = some (.int .u64 ev))
          (first
            | go_keep
            | (go_split_ands
               refine ⟨?_, ?_, ?_⟩
               · (rw [hg1.cell_far _ (by simp; omega) (Ne.symm hne.out)]; assumption)
               · (rw [hg1.cell_far _ (by simp; omega) (Ne.symm hne.out)]; assumption)
               · (rw [hg1.cell_far _ (by simp; omega) (Ne.symm hne.out)]; assumption)))
          ((first
            | (go_at_call 38; refine hen.mono ?_; rintro e w2 ⟨rfl, q2, rfl⟩)
            | (refine step_append_any _ (by rfl) _ _ _ (by rfl) w.heap.size 43 i0 _ 4 32 Try.underlying25 hi0 hz0 hz1 hz2 rfl (by omega) u6 os.length (secs os) (by rfl) (own_drewN (hown.out.alloc _) _)
                (wr.heap.size + 1) (some ⟨wr.heap.size, 0, none⟩) 1 1 (seC (⟨et, ev, es, nx⟩ : Sec)) (by rfl) (((reads_at wr 43 (seC (⟨et, ev, es, nx⟩ : Sec)) 1 _ rfl rfl).more (by simp)).drewN _) (seC_one _) (by unfold maxLen; omega) (by omega) (by have := hsz.out; simp; omega) ?_; intro v1 w3 hown1 hg1 hat1)))
        have hown2 : Hid (w3.ownsRow (w.heap.size) 43 4 v1 (os ++ [(⟨et, ev, es, nx⟩ : Sec)]).length (secs (os ++ [(⟨et, ev, es, nx⟩ : Sec)]))) := by
          unfold Hid
          rw [List.length_append]
          exact own_snocS hown1
        have hbel4 : Hid (Below w.heap.size w w3) := (below_drewN (hbel.out.alloc hsz.out _) _).grown hg1 (by have := hsz.out; simp; omega) (fun q hq => (hown.out.lt q hq).1)
        clear hown1 hg1 hat1 hen
        go_wp2_with fail
        go_roundg g
        case measure => omega
        case rel => exact ⟨k + 1, os ++ [⟨et, ev, es, nx⟩], by omega, by go_num, by simp; omega, hS2, hown2, hbel4⟩
      · rw [if_neg hkq] at hd
        have hS2 := Lib.hid (hS.out.trans (by rw [hd]))
        have hqk : (ek == 1) = false := by simpa using hkq
        clear hd hS
        go_wp2_with fail
        go_roundg g
        case measure => omega
        case rel => exact ⟨k + 1, os, by omega, by go_num, by omega, hS2, hown, hbel⟩

set_option maxRecDepth 100000 in
set_option maxHeartbeats 4000000 in
theorem rwaits_any (l : List Ev) (A : Option Addr) (n c : Nat) (w : World) (hr : Hid (Reads w w.heap.size 4 A n (evs l))) (hn : n ≤ 65536) :
    Calls Try.prog 41 #[.slice A n c] w (SecEnd 74 3 l w) := by
  have hl := Lib.hid (evs_n hr.out)
  obtain ⟨i0, hi0, hz0, hz1, hz2⟩ := info_parts infoWait
  go_enter Try.func41, Try.ntmps41
  go_wp2_with fail
  refine (rcheck_any l A n c _ hr hn).mono ?_
  rintro e w1 ⟨a, er, rfl, hck, hb⟩
  have hb1 := Lib.hid hb
  clear hb
  rcases ckIs_cases hck with ⟨rfl, hbad⟩ | ⟨rfl, hfine⟩
  · have hB := Lib.hid hbad
    clear hck hbad
    go_wp2_with fail
    go_ret2
    exact .inr ⟨hB.out, rfl, hb1.out⟩
  have hF := Lib.hid hfine
  clear hck hfine
  go_wp2_with fail
  go_loopg [6, 7] n (fun g v i wr => ∃ (k : Nat) (os : List Sec), k + g = n ∧ i = .int .i64 k ∧ os.length ≤ k ∧ Hid (secsK 3 l = os ++ secsK 3 (l.drop k)) ∧ Hid (wr.ownsRow w.heap.size 74 4 v os.length (secs os)) ∧ Hid (Below w.heap.size w wr))
  case atStart => exact ⟨0, [], by omega, rfl, Nat.le_refl _, rfl, World.ownsRow_nil _ _ _ _, hb1⟩
  case round =>
    obtain ⟨k, os, hk, rfl, hol, hS, hown, hbel⟩ := hrel
    cases gk with
    | zero =>
      obtain rfl : k = n := by omega
      have hz : Hid (secsK 3 l = os) := by
        unfold Hid
        rw [hS.out, List.drop_of_length_le (by rw [hl.out]; exact Nat.le_refl _)]
        simp [secsK]
      go_wp2_with fail
      go_ret2
      exact .inl ⟨_, hF.out, rfl, by rw [hz.out]; exact hown.out, hbel.out⟩
    | succ g =>
      obtain ⟨b, o, rfl, hbB⟩ := reads_head hr.out (by omega) (by decide)
      have hsz := Lib.hid hbel.out.size
      have hbw : b < wr.heap.size := by have := hsz.out; omega
      obtain ⟨⟨es, et, ek, ev⟩, he0, c0, c1, c2, c3⟩ := ev_at (hr.out.below hbel.out) (show k < n by omega)
      have he := Lib.hid he0
      have hd := secsK_drop (q := 3) he0
      clear he0
      dsimp only at c0 c1 c2 c3 hd
      have k0 : (0 : Int) ≤ (k : Int) := by omega
      have k1 : (k : Int) < (n : Int) := by omega
      by_cases hkq : ek = 3
      · rw [if_pos hkq] at hd
        subst hkq
        have hS2 : Hid (secsK 3 l = (os ++ [(⟨et, ev, es, nextOf et (l.drop (k + 1))⟩ : Sec)]) ++ secsK 3 (l.drop (k + 1))) := Lib.hid (by rw [hS.out, hd]; simp)
        clear hd hS
        have hen := ends_any l (some ⟨b, o, none⟩) n c k _ wr.drew ((hr.out.below hbel.out.drew).more hsz.out) hn he.out
        dsimp only at hen
        generalize nextOf et (l.drop (k + 1)) = nx at hS2 hen
        go_wp2_with fail
        have hne : Hid (u6.ownBlock ≠ some b) := fun h => by have := (hown.out.lt b h).1; omega
        go_region_held3 (fun w' => w'.cell? ⟨b, o + k * 4, none⟩ = some (.int .i64 es) ∧ w'.cell? ⟨b, o + k * 4 + 1, none⟩ = some (.int .i64 et) ∧ w'.cell? ⟨b, o + k * 4 + 3, none⟩ = some (.int .u64 ev))
          (first
            | go_keep
            | (go_split_ands
               refine ⟨?_, ?_, ?_⟩
               · (rw [hg1.cell_far _ (by simp; omega) (Ne.symm hne.out)]; assumption)
               · (rw [hg1.cell_far _ (by simp; omega) (Ne.symm hne.out)]; assumption)
               · (rw [hg1.cell_far _ (by simp; omega) (Ne.symm hne.out)]; assumption)))
          ((first
            | (go_at_call 38; refine hen.mono ?_; rintro e w2 ⟨rfl, q2, rfl⟩)
            | (refine step_append_any _ (by rfl) _ _ _ (by rfl) w.heap.size 74 i0 _ 4 32 Try.underlying70 hi0 hz0 hz1 hz2 rfl (by omega) u6 os.length (secs os) (by rfl) (own_drewN (hown.out.alloc _) _)
                (wr.heap.size + 1) (some ⟨wr.heap.size, 0, none⟩) 1 1 (seC (⟨et, ev, es, nx⟩ : Sec)) (by rfl) (((reads_at wr 74 (seC (⟨et, ev, es, nx⟩ : Sec)) 1 _ rfl rfl).more (by simp)).drewN _) (seC_one _) (by unfold maxLen; omega) (by omega) (by have := hsz.out; simp; omega) ?_; intro v1 w3 hown1 hg1 hat1)))
        have hown2 : Hid (w3.ownsRow (w.heap.size) 74 4 v1 (os ++ [(⟨et, ev, es, nx⟩ : Sec)]).length (secs (os ++ [(⟨et, ev, es, nx⟩ : Sec)]))) := by
          unfold Hid
          rw [List.length_append]
          exact own_snocS hown1
        have hbel4 : Hid (Below w.heap.size w w3) := (below_drewN (hbel.out.alloc hsz.out _) _).grown hg1 (by have := hsz.out; simp; omega) (fun q hq => (hown.out.lt q hq).1)
        clear hown1 hg1 hat1 hen
        go_wp2_with fail
        go_roundg g
        case measure => omega
        case rel => exact ⟨k + 1, os ++ [⟨et, ev, es, nx⟩], by omega, by go_num, by simp; omega, hS2, hown2, hbel4⟩
      · rw [if_neg hkq] at hd
        have hS2 := Lib.hid (hS.out.trans (by rw [hd]))
        have hqk : (ek == 3) = false := by simpa using hkq
        clear hd hS
        go_wp2_with fail
        go_roundg g
        case measure => omega
        case rel => exact ⟨k + 1, os, by omega, by go_num, by omega, hS2, hown, hbel⟩
end Go.Proofs.Ythkppihfdlmhgaa
