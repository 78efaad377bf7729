/- What the reference's Check finds, in plain lists. -/
import Derived.Test.YthkppihfdlmhgaaGraP
namespace Go.Proofs.Ythkppihfdlmhgaa
open Go Go.RowKit
set_option linter.unusedVariables false

/-- The wait that an event ends. -/
def endB (x : Ev) (w : Sec) : Bool := decide (x.kind = 4) && (decide (w.thread = x.thread) && decide (w.exit = x.step))
/-- A section that the wait should have waited for. -/
def heldB (w s : Sec) : Bool := decide (s.exit < 0) || decide (w.exit ≤ s.exit)
/-- The reference's test of an event. -/
def refB (W S : List Sec) (x : Ev) : Bool := W.any fun w => endB x w && (S.filter (dueB w.enter w.val)).any (heldB w)
theorem op_skip {l : List Ev} {t : Int} {i : Nat} : ∀ (d : Nat), (∀ (k : Nat) (e : Ev), i ≤ k → k < i + d → l[k]? = some e → e.thread ≠ t) → opS (l.take (i + d)) t = opS (l.take i) t
  | 0, _ => rfl
  | d + 1, h => by
    have ih := op_skip d (fun k e h1 h2 h3 => h k e h1 (by omega) h3)
    rw [← ih]
    cases he : l[i + d]? with
    | none =>
      rw [List.take_of_length_le (by have := List.getElem?_eq_none_iff.1 he; omega), List.take_of_length_le (by have := List.getElem?_eq_none_iff.1 he; omega)]
    | some e =>
      have hne := h (i + d) e (by omega) (by omega) he
      rw [show i + (d + 1) = i + d + 1 by omega, opS_take he]
      unfold opU
      rw [if_neg (fun h => hne h.symm)]
theorem wa_skip {l : List Ev} {t : Int} {i : Nat} : ∀ (d : Nat), (∀ (k : Nat) (e : Ev), i ≤ k → k < i + d → l[k]? = some e → e.thread ≠ t) → waS (l.take (i + d)) t = waS (l.take i) t
  | 0, _ => rfl
  | d + 1, h => by
    have ih := wa_skip d (fun k e h1 h2 h3 => h k e h1 (by omega) h3)
    rw [← ih]
    cases he : l[i + d]? with
    | none =>
      rw [List.take_of_length_le (by have := List.getElem?_eq_none_iff.1 he; omega), List.take_of_length_le (by have := List.getElem?_eq_none_iff.1 he; omega)]
    | some e =>
      have hne := h (i + d) e (by omega) (by omega) he
      rw [show i + (d + 1) = i + d + 1 by omega, waS_take he]
      unfold waU
      rw [if_neg (fun h => hne h.1.symm)]
/-- The last event of a thread. -/
theorem last_of (l : List Ev) (t : Int) : ∀ k : Nat, (∀ (j : Nat) (e : Ev), j < k → l[j]? = some e → e.thread ≠ t) ∨
    ∃ (a : Nat) (e : Ev), a < k ∧ l[a]? = some e ∧ e.thread = t ∧ ∀ (j : Nat) (y : Ev), a + 1 ≤ j → j < k → l[j]? = some y → y.thread ≠ t
  | 0 => .inl fun j e h => by omega
  | k + 1 => by
    cases he : l[k]? with
    | none =>
      rcases last_of l t k with h | ⟨a, e, h1, h2, h3, h4⟩
      · refine .inl fun j e hj hx => ?_
        by_cases hjk : j = k
        · subst hjk; rw [he] at hx; cases hx
        · exact h j e (by omega) hx
      · refine .inr ⟨a, e, by omega, h2, h3, fun j y h5 h6 hy => ?_⟩
        by_cases hjk : j = k
        · subst hjk; rw [he] at hy; cases hy
        · exact h4 j y h5 (by omega) hy
    | some x =>
      by_cases hx : x.thread = t
      · exact .inr ⟨k, x, by omega, he, hx, fun j y h1 h2 => by omega⟩
      · rcases last_of l t k with h | ⟨a, e, h1, h2, h3, h4⟩
        · refine .inl fun j e hj hy => ?_
          by_cases hjk : j = k
          · subst hjk; rw [he] at hy; rw [← Option.some.inj hy]; exact hx
          · exact h j e (by omega) hy
        · refine .inr ⟨a, e, by omega, h2, h3, fun j y h5 h6 hy => ?_⟩
          by_cases hjk : j = k
          · subst hjk; rw [he] at hy; rw [← Option.some.inj hy]; exact hx
          · exact h4 j y h5 (by omega) hy
/-- The event that opened a thread's section. -/
theorem op_src {l : List Ev} {t : Int} {p : Int × Int} : ∀ k : Nat, opS (l.take k) t = some p → ∃ (b : Nat) (e : Ev), b < k ∧ l[b]? = some e ∧ e.kind = 1 ∧ e.thread = t ∧ p = (e.val, e.step) ∧
    ∀ (j : Nat) (y : Ev), b < j → j < k → l[j]? = some y → y.thread = t → y.kind ≠ 2
  | 0, h => by cases h
  | k + 1, h => by
    cases he : l[k]? with
    | none =>
      rw [List.take_of_length_le (by have := List.getElem?_eq_none_iff.1 he; omega), ← List.take_of_length_le (i := k) (l := l) (by have := List.getElem?_eq_none_iff.1 he; omega)] at h
      obtain ⟨b, e, h1, h2, h3, h4, h5, h6⟩ := op_src k h
      refine ⟨b, e, by omega, h2, h3, h4, h5, fun j y hj hk hy => ?_⟩
      by_cases hjk : j = k
      · subst hjk; rw [he] at hy; cases hy
      · exact h6 j y hj (by omega) hy
    | some x =>
      rw [opS_take he] at h
      unfold opU at h
      have next : opS (l.take k) t = some p → (x.thread = t → x.kind ≠ 2) → ∃ (b : Nat) (e : Ev), b < k + 1 ∧ l[b]? = some e ∧ e.kind = 1 ∧ e.thread = t ∧ p = (e.val, e.step) ∧
          ∀ (j : Nat) (y : Ev), b < j → j < k + 1 → l[j]? = some y → y.thread = t → y.kind ≠ 2 := fun h hx => by
        obtain ⟨b, e, h1, h2, h3, h4, h5, h6⟩ := op_src k h
        refine ⟨b, e, by omega, h2, h3, h4, h5, fun j y hj hk hy => ?_⟩
        by_cases hjk : j = k
        · subst hjk; rw [he] at hy; rw [← Option.some.inj hy]; exact hx
        · exact h6 j y hj (by omega) hy
      by_cases ht : t = x.thread
      · rw [if_pos ht] at h
        by_cases h1 : x.kind = 1
        · rw [if_pos h1] at h
          exact ⟨k, x, by omega, he, h1, ht.symm, (Option.some.inj h).symm, fun j y h1 h2 => by omega⟩
        · rw [if_neg h1] at h
          by_cases h2 : x.kind = 2
          · rw [if_pos h2] at h; cases h
          · rw [if_neg h2] at h
            exact next h fun _ => h2
      · rw [if_neg ht] at h
        exact next h fun h => absurd h.symm ht
theorem src_mem {q : Int} : ∀ {l : List Ev} {i : Nat} {e : Ev}, l[i]? = some e → e.kind = q → (⟨e.thread, e.val, e.step, nextOf e.thread (l.drop (i + 1))⟩ : Sec) ∈ secsK q l
  | [], i, e, h, _ => by simp at h
  | x :: l, 0, e, h, hk => by
    obtain rfl := Option.some.inj h
    unfold secsK
    rw [if_pos hk]
    simp
  | x :: l, i + 1, e, h, hk => by
    have ih := src_mem (q := q) (l := l) (i := i) (e := e) (by simpa using h) hk
    unfold secsK
    rw [List.drop_succ_cons]
    split
    · exact List.mem_cons_of_mem _ ih
    · exact ih
/-- Before an event all lie at earlier steps, but for its own wait. -/
theorem before_lt {l : List Ev} (h : FineTo l l.length) {m k : Nat} {y x : Ev} (hy : l[m]? = some y) (hx : l[k]? = some x) (hmk : m < k) (h3 : y.kind ≠ 3) : y.step < x.step := by
  obtain ⟨p, hp⟩ : ∃ p, l[k - 1]? = some p := ⟨_, List.getElem?_eq_getElem (show k - 1 < l.length by have := (List.getElem?_eq_some_iff.1 hx).1; omega)⟩
  obtain ⟨_, hb, _⟩ := good_prt (fine_at h hx)
  unfold prevE at hb
  rw [if_neg (by omega), hp] at hb
  unfold behind at hb
  simp only [Bool.or_eq_true, Bool.and_eq_true, decide_eq_true_eq] at hb
  by_cases hm : m = k - 1
  · subst hm
    rw [hy] at hp
    obtain rfl := Option.some.inj hp
    rcases hb with hb | ⟨⟨⟨_, h2⟩, _⟩, _⟩
    · exact hb
    · exact absurd h2 h3
  · have ho := ord_lt h hy hp (by omega)
    rcases hb with hb | ⟨⟨⟨h1, h2⟩, _⟩, _⟩
    · omega
    · have := ho.2 (by omega)
      omega
/-- The wait that a Done ends. -/
theorem wait_of {l : List Ev} (h : FineTo l l.length) {k : Nat} {x : Ev} (hx : l[k]? = some x) (hk : x.kind = 4) :
    ∃ (a : Nat) (y : Ev), a < k ∧ l[a]? = some y ∧ y.thread = x.thread ∧ y.kind = 3 ∧ y.val = x.val ∧ (∀ (j : Nat) (z : Ev), a + 1 ≤ j → j < k → l[j]? = some z → z.thread ≠ x.thread) ∧ fromW (l.take k) x.thread = y.step := by
  obtain ⟨_, _, hok⟩ := good_prt (fine_at h hx)
  unfold okS at hok
  rw [if_neg (by omega), if_neg (by omega), if_neg (by omega)] at hok
  simp only [Bool.and_eq_true, decide_eq_true_eq] at hok
  rcases last_of l x.thread k with hn | ⟨a, y, h1, h2, h3, h4⟩
  · have := st_skip (l := l) (t := x.thread) (i := 0) k (fun j e _ hj he => hn j e (by omega) he)
    rw [Nat.zero_add] at this
    rw [this] at hok
    exact absurd (show (0 : Int) = 3 from hok.1) (by decide)
  · obtain ⟨d, rfl⟩ : ∃ d, k = a + 1 + d := ⟨k - (a + 1), by omega⟩
    have hst := st_skip (l := l) (t := x.thread) (i := a + 1) d (fun j e hj hk he => h4 j e hj hk he)
    have hwa := wa_skip (l := l) (t := x.thread) (i := a + 1) d (fun j e hj hk he => h4 j e hj hk he)
    rw [hst, stS_take h2] at hok
    unfold upS at hok
    rw [if_pos h3.symm] at hok
    by_cases k1 : y.kind = 1
    · rw [if_pos k1] at hok
      exact absurd (show (1 : Int) = 3 from hok.1) (by decide)
    · rw [if_neg k1] at hok
      by_cases k3 : y.kind = 3
      · rw [if_pos k3] at hok
        refine ⟨a, y, h1, h2, h3, k3, hok.2, h4, ?_⟩
        unfold fromW
        rw [hwa, waS_take h2]
        unfold waU
        rw [if_pos ⟨h3.symm, k3⟩]
        rfl
      · rw [if_neg k3] at hok
        exact absurd (show (0 : Int) = 3 from hok.1) (by decide)
/-- There is one wait that a Done ends. -/
theorem wait_one {l : List Ev} (h : FineTo l l.length) {k a i : Nat} {x y : Ev} {w : Sec} (hx : l[k]? = some x) (hk : x.kind = 4) (hak : a < k) (ha : l[a]? = some y) (hat : y.thread = x.thread) (hyk : y.kind = 3)
    (hn : ∀ (j : Nat) (z : Ev), a + 1 ≤ j → j < k → l[j]? = some z → z.thread ≠ x.thread) (hs : Src 3 l w i) (ht : w.thread = x.thread) (he : w.exit = x.step) : i = a := by
  obtain ⟨e, hi, ek, rfl⟩ := hs
  dsimp only at ht he
  have hx0 := (good_prt (fine_at h hx)).1.1
  rcases next_in l e.thread i with ⟨_, h2⟩ | ⟨m, f, him, hm, hmt, hmn, hme⟩
  · rw [h2] at he
    omega
  · rw [hme] at he
    have fk := (next_kind h hi (.inr ek) him hm hmt hmn).1
    have hmk : m = k := by
      rcases Nat.lt_trichotomy m k with h1 | h1 | h1
      · have h2 : m ≤ a := by
          apply Nat.le_of_not_lt
          intro h3
          exact hn m f (by omega) h1 hm (by rw [hmt, ht])
        have h3 : m ≠ a := fun h3 => by
          subst h3
          rw [hm] at ha
          obtain rfl := Option.some.inj ha
          omega
        have h4 := (ord_lt h hm ha (by omega)).2 (by omega)
        have h5 := (ord_lt h ha hx hak).1
        omega
      · exact h1
      · have h2 : k ≤ i := by
          apply Nat.le_of_not_lt
          intro h3
          exact hmn k x (by omega) h1 hx ht.symm
        have h3 : k ≠ i := fun h3 => by
          subst h3
          rw [hi] at hx
          obtain rfl := Option.some.inj hx
          omega
        have h4 := (ord_lt h hx hi (by omega)).2 (by omega)
        have h5 := (ord_lt h hi hm him).1
        omega
    subst hmk
    rcases Nat.lt_trichotomy i a with h1 | h1 | h1
    · exact absurd (hat.trans ht.symm) (hmn a y (by omega) hak ha)
    · exact h1
    · exact absurd ht (hn i e (by omega) him hi)
/-- The exit of the wait that a Done ends. -/
theorem wait_exit {l : List Ev} {k a : Nat} {x y : Ev} (hx : l[k]? = some x) (hak : a < k) (hat : y.thread = x.thread)
    (hn : ∀ (j : Nat) (z : Ev), a + 1 ≤ j → j < k → l[j]? = some z → z.thread ≠ x.thread) : nextOf y.thread (l.drop (a + 1)) = x.step := by
  rcases next_in l y.thread a with ⟨h1, _⟩ | ⟨m, f, him, hm, hmt, hmn, hme⟩
  · exact absurd hat.symm (h1 k x (by omega) hx)
  · rw [hme]
    rcases Nat.lt_trichotomy m k with h1 | h1 | h1
    · exact absurd (hmt.trans hat) (hn m f (by omega) h1 hm)
    · subst h1
      rw [hm] at hx
      rw [Option.some.inj hx]
    · exact absurd hat.symm (hmn k x (by omega) h1 hx)
theorem ref_early {l : List Ev} (h : FineTo l l.length) {k : Nat} {x : Ev} (hx : l[k]? = some x) : refB (secsK 3 l) (secsK 1 l) x = earB l k x := by
  by_cases hk : x.kind = 4
  · obtain ⟨a, y, hak, ha, hat, hyk, hyv, hn, hfr⟩ := wait_of h hx hk
    have hex := wait_exit hx hak hat hn
    have hya := ord_lt h ha hx hak
    rw [Bool.eq_iff_iff]
    constructor
    · intro hr
      unfold refB at hr
      obtain ⟨w, hw, hr⟩ := List.any_eq_true.1 hr
      simp only [Bool.and_eq_true] at hr
      obtain ⟨he, hr⟩ := hr
      obtain ⟨s, hs, hr⟩ := List.any_eq_true.1 hr
      obtain ⟨hsm, hd⟩ := List.mem_filter.1 hs
      clear hs
      unfold endB at he
      simp only [Bool.and_eq_true, decide_eq_true_eq] at he
      obtain ⟨_, he1, he2⟩ := he
      obtain ⟨wi, hwi⟩ := List.getElem?_of_mem hw
      obtain ⟨i, hi⟩ := secsK_src hwi
      obtain rfl := wait_one h hx hk hak ha hat hyk hn hi he1 he2
      obtain ⟨y', hy', _, rfl⟩ := hi
      rw [ha] at hy'
      obtain rfl := Option.some.inj hy'
      unfold heldB at hr
      unfold dueB at hd
      simp only [Bool.or_eq_true, Bool.and_eq_true, decide_eq_true_eq] at hr hd he2
      obtain ⟨⟨d1, d2⟩, d3⟩ := hd
      rw [hyv] at d3
      rw [he2] at hr
      obtain ⟨si, hsi⟩ := List.getElem?_of_mem hsm
      obtain ⟨b, e, hb, ek, rfl⟩ := secsK_src hsi
      dsimp only at d1 d2 d3 hr
      have hba : b < i := by
        rcases Nat.lt_trichotomy b i with h1 | h1 | h1
        · exact h1
        · subst h1
          rw [ha] at hb
          obtain rfl := Option.some.inj hb
          omega
        · have := (ord_lt h ha hb h1).2 (by omega)
          omega
      have hnb : ∀ (j : Nat) (z : Ev), b + 1 ≤ j → j < k → l[j]? = some z → z.thread ≠ e.thread := by
        rcases next_in l e.thread b with ⟨h1, _⟩ | ⟨m, f, him, hm, hmt, hmn, hme⟩
        · exact fun j z hj _ hz => h1 j z hj hz
        · have fk := (next_kind h hb (.inl ek) him hm hmt hmn).1
          have f0 := (good_prt (fine_at h hm)).1.1
          rw [hme] at hr
          have hkm : k ≤ m := by
            apply Nat.le_of_not_lt
            intro hlt
            have := before_lt h hm hx hlt (by omega)
            omega
          exact fun j z hj hjk hz => hmn j z hj (by omega) hz
      refine earB_one hk (t := e.thread) ?_
      unfold lateB
      obtain ⟨d, rfl⟩ : ∃ d, k = b + 1 + d := ⟨k - (b + 1), by omega⟩
      rw [op_skip d (fun j z hj hjk hz => hnb j z hj hjk hz), opS_take hb]
      unfold opU
      rw [if_pos rfl, if_pos ek]
      dsimp only
      rw [hfr, d3, decide_eq_true d1]
      rfl
    · intro hr
      unfold earB at hr
      simp only [Bool.and_eq_true] at hr
      obtain ⟨e0, _, hl⟩ := List.any_eq_true.1 hr.2
      unfold lateB at hl
      cases ho : opS (l.take k) e0.thread with
      | none => rw [ho] at hl; cases hl
      | some p =>
        rw [ho] at hl
        obtain ⟨b, e, hbk, hb, ek, et, rfl, hno⟩ := op_src k ho
        dsimp only at hl
        simp only [Bool.and_eq_true, decide_eq_true_eq] at hl
        obtain ⟨l1, l2⟩ := hl
        rw [hfr] at l1
        unfold refB
        refine List.any_eq_true.2 ⟨_, src_mem ha hyk, ?_⟩
        rw [hex]
        simp only [Bool.and_eq_true]
        refine ⟨?_, List.any_eq_true.2 ⟨_, List.mem_filter.2 ⟨src_mem hb ek, ?_⟩, ?_⟩⟩
        · unfold endB
          simp only [Bool.and_eq_true, decide_eq_true_eq]
          exact ⟨hk, hat, trivial⟩
        · unfold dueB
          simp only [Bool.and_eq_true, Bool.or_eq_true, decide_eq_true_eq]
          rw [hyv]
          refine ⟨⟨l1, ?_⟩, l2⟩
          rcases next_in l e.thread b with ⟨_, h1⟩ | ⟨m, f, him, hm, hmt, hmn, hme⟩
          · rw [h1]; exact .inl (by decide)
          · rw [hme]
            have fk := (next_kind h hb (.inl ek) him hm hmt hmn).1
            have hkm : k ≤ m := by
              apply Nat.le_of_not_lt
              intro hlt
              exact hno m f him hlt hm (hmt.trans et) (by omega)
            have hne : k ≠ m := fun h1 => by
              subst h1
              rw [hm] at hx
              obtain rfl := Option.some.inj hx
              omega
            have := (ord_lt h hx hm (by omega)).1
            exact .inr (by omega)
        · unfold heldB
          simp only [Bool.or_eq_true, decide_eq_true_eq]
          rcases next_in l e.thread b with ⟨_, h1⟩ | ⟨m, f, him, hm, hmt, hmn, hme⟩
          · rw [h1]; exact .inl (by decide)
          · rw [hme]
            have fk := (next_kind h hb (.inl ek) him hm hmt hmn).1
            have hkm : k ≤ m := by
              apply Nat.le_of_not_lt
              intro hlt
              exact hno m f him hlt hm (hmt.trans et) (by omega)
            have hne : k ≠ m := fun h1 => by
              subst h1
              rw [hm] at hx
              obtain rfl := Option.some.inj hx
              omega
            exact .inr ((ord_lt h hx hm (by omega)).1)
  · rw [earB_not hk]
    unfold refB
    rw [List.any_eq_false]
    intro w _
    unfold endB
    rw [decide_eq_false hk]
    simp
end Go.Proofs.Ythkppihfdlmhgaa
