/- The laws' helpers: has, known, made. -/
import Derived.Test.YtfghkmhabpagkaaOPut
import Derived.Deep.LoopGhost
namespace Go.Proofs.Ytfghkmhabpagkaa
open Go Go.RowKit
set_option linter.unusedVariables false

theorem look_at_take {l : List Pr} {k : Int} {i : Nat} {p : Pr} (h : look Pr.key (l.take i) k = none) (hp : l[i]? = some p) (hk : p.key = k) : look Pr.key l k = some p := by
  unfold look at h ⊢
  rw [← List.take_append_drop i l, List.find?_append, h, Option.none_or]
  have hd : l.drop i = p :: l.drop (i + 1) := by rw [List.drop_eq_getElem?_toList_append, hp]; rfl
  rw [hd, List.find?_cons_of_pos (by simpa using hk)]
theorem look_on_take {l : List Pr} {k : Int} {i : Nat} {p : Pr} (h : look Pr.key (l.take i) k = none) (hp : l[i]? = some p) (hk : p.key ≠ k) : look Pr.key (l.take (i + 1)) k = none := by
  unfold look at h ⊢
  rw [List.take_add_one, hp, List.find?_append, h, Option.none_or, Option.toList_some, List.find?_cons_of_neg (by simpa using hk)]
  rfl
set_option maxHeartbeats 4000000 in
theorem has_at (l : List Pr) (A : Option Addr) (n c : Nat) (key : Int) (w : World) (hr : Hid (Reads w w.heap.size 2 A n (prs l))) (hn : n ≤ 4611686018427387904) :
    Calls Try.prog 16 #[.slice A n c, .int .u64 key] w (GetO l key w) := by
  have hll := Lib.hid (prs_n hr.out)
  unfold GetO
  go_enter Try.func16, Try.ntmps16
  go_wp2_with fail
  go_loopg [6] n (fun g i wr => ∃ k : Nat, k + g = n ∧ i = .int .i64 k ∧ Hid (look Pr.key (l.take k) key = none) ∧ Hid (Below w.heap.size w wr))
  case atStart => exact ⟨0, by omega, rfl, rfl, Below.refl _ _⟩
  case round =>
    obtain ⟨k, hk, rfl, hlk, hbel⟩ := hrel
    cases gk with
    | zero =>
      obtain rfl : k = n := by omega
      have hz : Hid (look Pr.key l key = none) := by
        have h1 := hlk.out
        rw [List.take_of_length_le (by rw [hll.out]; exact Nat.le_refl _)] at h1
        exact h1
      clear hlk
      go_wp2_with fail
      go_ret2
      exact ⟨by rw [hz.out]; rfl, hbel.out⟩
    | succ g =>
      obtain ⟨b, o, rfl, hbB⟩ := reads_head hr.out (by omega) (by decide)
      obtain ⟨x, hx, c0, c1⟩ := prs_at (hr.out.below hbel.out) (show k < n by omega)
      have i0 : (0 : Int) ≤ (k : Int) := by omega
      have i1 : (k : Int) < (n : Int) := by omega
      obtain ⟨xk, xv⟩ := x
      dsimp only at c0 c1
      by_cases he : xk = key
      · subst he
        have hz := Lib.hid (look_at_take hlk.out hx rfl)
        clear hlk hx
        go_wp2_with fail
        go_ret2
        exact ⟨by rw [hz.out]; rfl, hbel.out⟩
      · have hz := Lib.hid (look_on_take hlk.out hx he)
        have hd : (xk == key) = false := by simpa using he
        clear hlk hx
        go_wp2_with fail
        go_roundg g
        case measure => omega
        case rel => exact ⟨k + 1, by omega, by go_num, hz, hbel⟩
/-- The pairs, of several with one key the first. -/
def firsts (l : List Pr) : List Pr := l.foldl (fun acc p => if (look Pr.key acc p.key).isSome = true then acc else acc ++ [p]) []
theorem firsts_take {l : List Pr} {k : Nat} {p : Pr} (hp : l[k]? = some p) : firsts (l.take (k + 1)) = if (look Pr.key (firsts (l.take k)) p.key).isSome = true then firsts (l.take k) else firsts (l.take k) ++ [p] := by
  unfold firsts
  rw [List.take_add_one, hp, Option.toList_some, List.foldl_append]
  rfl
theorem firsts_len (l : List Pr) : ∀ k, (firsts (l.take k)).length ≤ k
  | 0 => by simp [firsts]
  | k + 1 => by
    have ih := firsts_len l k
    cases hp : l[k]? with
    | none =>
      rw [List.take_of_length_le (by have := List.getElem?_eq_none_iff.1 hp; omega), ← List.take_of_length_le (i := k) (l := l) (by have := List.getElem?_eq_none_iff.1 hp; omega)]
      omega
    | some p =>
      rw [firsts_take hp]
      split
      · omega
      · rw [List.length_append]; simp; omega
theorem firsts_mem (l : List Pr) : ∀ k, ∀ p ∈ firsts (l.take k), p ∈ l
  | 0, p, h => by simp [firsts] at h
  | k + 1, p, h => by
    cases hp : l[k]? with
    | none =>
      rw [List.take_of_length_le (by have := List.getElem?_eq_none_iff.1 hp; omega), ← List.take_of_length_le (i := k) (l := l) (by have := List.getElem?_eq_none_iff.1 hp; omega)] at h
      exact firsts_mem l k p h
    | some q =>
      rw [firsts_take hp] at h
      split at h
      · exact firsts_mem l k p h
      · rcases List.mem_append.1 h with h | h
        · exact firsts_mem l k p h
        · rw [List.mem_singleton.1 h]; exact List.mem_of_getElem? hp
/-- No two have one key. -/
def Dist (l : List Pr) : Prop := ∀ (i j : Nat) (p q : Pr), i < j → l[i]? = some p → l[j]? = some q → p.key ≠ q.key
theorem firsts_dist (l : List Pr) : ∀ k, Dist (firsts (l.take k))
  | 0 => fun i j p q _ h => by simp [firsts] at h
  | k + 1 => by
    have ih := firsts_dist l k
    cases hp : l[k]? with
    | none =>
      rw [List.take_of_length_le (by have := List.getElem?_eq_none_iff.1 hp; omega), ← List.take_of_length_le (i := k) (l := l) (by have := List.getElem?_eq_none_iff.1 hp; omega)]
      exact ih
    | some x =>
      rw [firsts_take hp]
      split
      · exact ih
      · rename_i hn
        intro i j p q hij hi hj
        have hnone : look Pr.key (firsts (l.take k)) x.key = none := by
          cases hz : look Pr.key (firsts (l.take k)) x.key with
          | none => rfl
          | some y => rw [hz] at hn; exact absurd rfl hn
        by_cases hjl : j < (firsts (l.take k)).length
        · rw [List.getElem?_append_left hjl] at hj
          rw [List.getElem?_append_left (by omega)] at hi
          exact ih i j p q hij hi hj
        · have hjl2 : j = (firsts (l.take k)).length := by
            have := (List.getElem?_eq_some_iff.1 hj).1
            rw [List.length_append] at this
            simp at this
            omega
          subst hjl2
          rw [List.getElem?_append_right (Nat.le_refl _), Nat.sub_self] at hj
          obtain rfl : x = q := Option.some.inj hj
          rw [List.getElem?_append_left hij] at hi
          exact look_none.1 hnone p (List.mem_of_getElem? hi)
theorem look_puts_none {l : List Pr} {k : Int} : ∀ ts : List Pr, (∀ p ∈ l, p.key ≠ k) → (∀ p ∈ ts, p.key ≠ k) → Srt Pr.key l → look Pr.key (puts l ts) k = none ∧ Srt Pr.key (puts l ts)
  | ts, h1, h2, h3 => by
    induction ts generalizing l with
    | nil => exact ⟨look_none.2 h1, h3⟩
    | cons t ts ih =>
      have hs := set_spec t l h3
      refine ih (l := setP t l) (fun p hp => ?_) (fun p hp => h2 p (by simp [hp])) hs.1
      have hn : look Pr.key (setP t l) k = none := by
        rw [hs.2 k, if_neg (h2 t (by simp)), look_none]
        exact h1
      exact look_none.1 hn p hp
theorem dist_noDup {l : List Pr} (h : Dist l) (n : Nat) : NoDup l n := fun j p hp hj => by
  refine (look_puts_none (l := []) (l.take j) (fun p hp => by simp at hp) (fun q hq => ?_) srt_nil).1
  obtain ⟨i, hi⟩ := List.getElem?_of_mem hq
  rw [List.getElem?_take] at hi
  split at hi
  · rename_i hij
    exact h i j q p hij hi hp
  · cases hi
theorem mem_setP {p x : Pr} : ∀ {l : List Pr}, x ∈ setP p l → x = p ∨ x ∈ l
  | [], h => by simp [setP] at h; exact .inl h
  | q :: l, h => by
    unfold setP at h
    split at h
    · rcases List.mem_cons.1 h with rfl | h
      · exact .inr (by simp)
      · rcases mem_setP h with h | h
        · exact .inl h
        · exact .inr (by simp [h])
    · rcases List.mem_cons.1 h with rfl | h
      · exact .inl rfl
      · exact .inr (List.mem_filter.1 h).1
theorem mem_puts {x : Pr} : ∀ (ts : List Pr) {l : List Pr}, x ∈ puts l ts → x ∈ ts ∨ x ∈ l
  | [], l, h => .inr h
  | t :: ts, l, h => by
    rcases mem_puts ts (l := setP t l) h with h | h
    · exact .inl (by simp [h])
    · rcases mem_setP h with h | h
      · exact .inl (by simp [h])
      · exact .inr h
/-- What made makes of the pairs. -/
def madeL (l : List Pr) : List Pr := puts [] (firsts l)
theorem firsts_all (l : List Pr) : firsts l = firsts (l.take l.length) := by rw [List.take_length]
theorem madeL_mem {l : List Pr} {p : Pr} (h : p ∈ madeL l) : p ∈ l := by
  rcases mem_puts _ h with h | h
  · rw [firsts_all] at h
    exact firsts_mem l _ p h
  · cases h
theorem madeL_len (l : List Pr) : (madeL l).length ≤ (firsts l).length := by
  have := puts_len (firsts l) []
  unfold madeL
  simpa using this
theorem madeL_le (l : List Pr) : (madeL l).length ≤ l.length := by
  have h1 := madeL_len l
  have h2 := firsts_len l l.length
  rw [← firsts_all] at h2
  omega
/-- How made ends. -/
def MadeEnd (l : List Pr) (w : World) (e : Ending) (w' : World) : Prop :=
  Below w.heap.size w w' ∧ ((60 < (firsts l).length ∧ e = .returned (.pointer none)) ∨ ((firsts l).length ≤ 60 ∧ ∃ g v, e = .returned (.pointer (some ⟨g, 0, none⟩)) ∧ IsO w' w.heap.size g v (madeL l)))
set_option maxRecDepth 100000 in
set_option maxHeartbeats 8000000 in
theorem made_any (l : List Pr) (A : Option Addr) (n c : Nat) (w : World) (hr : Hid (Reads w w.heap.size 2 A n (prs l))) (hn : n * 16 ≤ 140737488351232) :
    Calls Try.prog 11 #[.slice A n c] w (MadeEnd l w) := by
  have hll := Lib.hid (prs_n hr.out)
  obtain ⟨i0, hi0, hz0, hz1, hz2⟩ := info_parts infoPair
  unfold MadeEnd
  go_enter Try.func11, Try.ntmps11
  go_wp2_with fail
  go_loopg [3, 4] n (fun g v i wr => ∃ (k : Nat) (os : List Pr), k + g = n ∧ i = .int .i64 k ∧ os.length ≤ k ∧ Hid (os = firsts (l.take k)) ∧ Hid (wr.ownsRow w.heap.size 38 2 v os.length (prs os)) ∧ Hid (Below w.heap.size w wr))
  case atStart => exact ⟨0, [], by omega, rfl, Nat.le_refl _, rfl, World.ownsRow_nil _ _ _ _, Below.refl _ _⟩
  case round =>
    obtain ⟨k, os, hk, rfl, hol, hos, hown, hbel⟩ := hrel
    have hsz := Lib.hid hbel.out.size
    cases gk with
    | zero =>
      obtain rfl : k = n := by omega
      have hz : Hid (os = firsts l) := by
        unfold Hid
        rw [hos.out, List.take_of_length_le (by rw [hll.out]; exact Nat.le_refl _)]
      obtain ⟨A', c', rfl, _⟩ := own_form hown.out
      by_cases h60 : 60 < os.length
      · have d1 : (60 : Int) < (os.length : Int) := by omega
        go_wp2_with fail
        go_ret
        exact ⟨hbel.out, .inl ⟨by rw [← hz.out]; exact h60, rfl⟩⟩
      · have d1 : ¬ (60 : Int) < (os.length : Int) := by omega
        have hr2 : Hid (Reads wr wr.heap.size 2 A' os.length (prs os)) := Reads.of_own hown.out
        have hdist : Hid (Dist os) := by
          unfold Hid
          rw [hz.out, firsts_all]
          exact firsts_dist l _
        have hnew := newO_any os A' os.length c' wr hr2 (by omega)
        generalize hL : os.length = L at *
        clear hown hos
        go_wp2_with fail
        refine hnew.mono ?_
        rintro e w2 ⟨hb, h | h⟩
        · obtain ⟨_, g, v, rfl, ho⟩ := h
          have hb2 := below_on hbel hb
          have ho2 := Lib.hid (ho.base hsz.out)
          clear hnew hb ho
          go_wp2_with fail
          go_ret
          exact ⟨hb2.out, .inr ⟨by rw [← hz.out, hL]; omega, g, v, rfl, by unfold madeL; rw [← hz.out]; exact ho2.out⟩⟩
        · exact absurd (dist_noDup hdist.out _) h.1
    | succ g =>
      obtain ⟨b, o, rfl, hbB⟩ := reads_head hr.out (by omega) (by decide)
      obtain ⟨⟨xk, xv⟩, hx, c0, c1⟩ := prs_at (hr.out.below hbel.out) (show k < n by omega)
      have i0' : (0 : Int) ≤ (k : Int) := by omega
      have i1 : (k : Int) < (n : Int) := by omega
      dsimp only at c0 c1
      have hbw : b < wr.heap.size := by have := hsz.out; omega
      obtain ⟨A', c', rfl, _⟩ := own_form hown.out
      have hr2 : Hid (Reads wr wr.heap.size 2 A' os.length (prs os)) := Reads.of_own hown.out
      have hst := firsts_take hx
      rw [← hos.out] at hst
      have hhas := has_at os A' os.length c' xk wr hr2 (by omega)
      unfold GetO at hhas
      obtain ⟨lv, hlv⟩ : ∃ lv, valO (look Pr.key os xk) = lv := ⟨_, rfl⟩
      obtain ⟨lb, hlb⟩ : ∃ lb, (look Pr.key os xk).isSome = lb := ⟨_, rfl⟩
      rw [hlv, hlb] at hhas
      dsimp only at hst
      rw [hlb] at hst
      clear hlv hlb hx hos
      cases lb with
      | true =>
        have hS2 := Lib.hid (show os = firsts (l.take (k + 1)) by rw [hst, if_pos rfl])
        clear hst
        generalize hL : os.length = L at *
        go_wp2_with fail
        refine hhas.mono ?_
        rintro e w2 ⟨rfl, hb⟩
        have hb2 := below_on hbel hb
        have hown2 := Lib.hid (own_below hown.out hb)
        clear hhas hb hbel hown hr2
        go_wp2_with fail
        go_roundg g
        case measure => omega
        case rel => exact ⟨k + 1, os, by omega, by go_num, by omega, hS2, by rw [hL]; exact hown2, hb2⟩
      | false =>
        have hS2 := Lib.hid (show os ++ [⟨xk, xv⟩] = firsts (l.take (k + 1)) by rw [hst, if_neg (by decide)])
        clear hst
        generalize hL : os.length = L at *
        have hLh := Lib.hid hL
        have hownL := hown.out
        clear hL
        go_wp2_with fail
        refine hhas.mono ?_
        rintro e w2 ⟨rfl, hb⟩
        have hb2 := below_on hbel hb
        have hown2 := Lib.hid (own_below hownL hb)
        have hsz2 := Lib.hid hb2.out.size
        have d0 := (hb.cell (p := ⟨b, o + k * 2, none⟩) hbw).trans c0
        have d1 := (hb.cell (p := ⟨b, o + k * 2 + 1, none⟩) hbw).trans c1
        clear hhas hb hbel hown hr2 hownL c0 c1
        go_wp2_with (at_builtin; refine wpList_append_any _ rfl (.tmp 27) (.tmp 32) 22 rfl (w.heap.size) 38 i0 _ 2 16 Try.underlying22 hi0 hz0 hz1 hz2 rfl (by decide) (.slice A' L c') L (prs os) rfl (hown2.out.alloc _) (w2.heap.size + 1) (some ⟨w2.heap.size, 0, none⟩) 1 1 (prC (⟨xk, xv⟩ : Pr)) rfl ((reads_at w2 _ (prC (⟨xk, xv⟩ : Pr)) 1 _ rfl rfl).more (by simp)) (prC_one _) (by unfold maxLen; omega) (by omega) (by have := hsz2.out; simp; omega) ?_; intro v1 w3 hown1 hg1 hat1)
        have hown3 : Hid (w3.ownsRow (w.heap.size) 38 2 v1 (os ++ [(⟨xk, xv⟩ : Pr)]).length (prs (os ++ [(⟨xk, xv⟩ : Pr)]))) := by
          unfold Hid
          rw [List.length_append, hLh.out]
          exact own_snocP hown1
        have hbel4 : Hid (Below w.heap.size w w3) := (hb2.out.alloc hsz2.out _).grown hg1 (by have := hsz2.out; simp; omega) (fun q hq => (hown2.out.lt q hq).1)
        clear hown1 hg1 hat1 hown2 hb2
        go_wp2_with fail
        go_roundg g
        case measure => omega
        case rel => exact ⟨k + 1, os ++ [⟨xk, xv⟩], by omega, by go_num, by rw [List.length_append, hLh.out]; simp; omega, hS2, hown3, hbel4⟩
end Go.Proofs.Ytfghkmhabpagkaa
