/- Sections and waits of a thread lie apart; prefixes; the events of one thread: plain lists. -/
import Derived.Test.YthkppihfdlmhgaaLookP
namespace Go.Proofs.Ythkppihfdlmhgaa
open Go Go.RowKit
set_option linter.unusedVariables false

theorem good_prt {l : List Ev} {k : Nat} {e : Ev} (h : goodE l k e = true) : (0 ≤ e.step ∧ 0 ≤ e.thread ∧ e.thread < 64 ∧ 1 ≤ e.kind ∧ e.kind ≤ 4) ∧ behind (prevE l k) e = true ∧ okS (stS (l.take k) e.thread) e = true := by
  unfold goodE rightE at h
  simp only [Bool.and_eq_true, decide_eq_true_eq] at h
  obtain ⟨⟨⟨⟨h1, h2, h3⟩, h4, h5⟩, h6⟩, h7⟩ := h
  exact ⟨⟨h1, h2, h3, h4, h5⟩, h6, h7⟩
theorem fine_at {l : List Ev} (h : FineTo l l.length) {j : Nat} {e : Ev} (he : l[j]? = some e) : goodE l j e = true := h j e (List.getElem?_eq_some_iff.1 he).1 he
theorem adj_fine {l : List Ev} (h : FineTo l l.length) {i : Nat} {x y : Ev} (hx : l[i]? = some x) (hy : l[i + 1]? = some y) : x.step ≤ y.step ∧ (y.kind ≠ 4 → x.step < y.step) := by
  obtain ⟨_, hb, _⟩ := good_prt (fine_at h hy)
  unfold prevE at hb
  rw [if_neg (by omega), Nat.add_sub_cancel, hx] at hb
  unfold behind at hb
  simp only [Bool.or_eq_true, Bool.and_eq_true, decide_eq_true_eq] at hb
  rcases hb with hb | ⟨⟨⟨h1, h2⟩, h3⟩, h4⟩
  · exact ⟨by omega, fun _ => hb⟩
  · exact ⟨by omega, fun hk => absurd h3 hk⟩
theorem ord_fine {l : List Ev} (h : FineTo l l.length) : ∀ (d i : Nat) {x y : Ev}, l[i]? = some x → l[i + 1 + d]? = some y → x.step ≤ y.step ∧ (y.kind ≠ 4 → x.step < y.step)
  | 0, i, x, y, hx, hy => adj_fine h hx hy
  | d + 1, i, x, y, hx, hy => by
    have hlt : i + 1 + d < l.length := by have := (List.getElem?_eq_some_iff.1 hy).1; omega
    have hz : l[i + 1 + d]? = some l[i + 1 + d] := List.getElem?_eq_getElem hlt
    obtain ⟨h1, _⟩ := ord_fine h d i hx hz
    obtain ⟨h2, h3⟩ := adj_fine h hz (y := y) (by rw [show i + 1 + d + 1 = i + 1 + (d + 1) by omega]; exact hy)
    exact ⟨by omega, fun hk => by have := h3 hk; omega⟩
theorem ord_lt {l : List Ev} (h : FineTo l l.length) {i j : Nat} {x y : Ev} (hx : l[i]? = some x) (hy : l[j]? = some y) (hij : i < j) : x.step ≤ y.step ∧ (y.kind ≠ 4 → x.step < y.step) := by
  obtain ⟨d, rfl⟩ : ∃ d, j = i + 1 + d := ⟨j - (i + 1), by omega⟩
  exact ord_fine h d i hx hy
theorem st_skip {l : List Ev} {t : Int} {i : Nat} : ∀ (d : Nat), (∀ (k : Nat) (e : Ev), i ≤ k → k < i + d → l[k]? = some e → e.thread ≠ t) → stS (l.take (i + d)) t = stS (l.take i) t
  | 0, _ => rfl
  | d + 1, h => by
    have ih := st_skip d (fun k e h1 h2 h3 => h k e h1 (by omega) h3)
    rw [← ih]
    cases he : l[i + d]? with
    | none =>
      rw [List.take_of_length_le (by have := List.getElem?_eq_none_iff.1 he; omega), List.take_of_length_le (by have := List.getElem?_eq_none_iff.1 he; omega)]
    | some e =>
      have hne := h (i + d) e (by omega) (by omega) he
      rw [show i + (d + 1) = i + d + 1 by omega, stS_take he]
      unfold upS
      rw [if_neg (fun h => hne h.symm)]
/-- The thread's next event. -/
theorem next_cases (t : Int) (m : List Ev) : ((∀ (k : Nat) (e : Ev), m[k]? = some e → e.thread ≠ t) ∧ nextOf t m = -1) ∨ ∃ (d : Nat) (e : Ev), m[d]? = some e ∧ e.thread = t ∧ (∀ (k : Nat) (x : Ev), k < d → m[k]? = some x → x.thread ≠ t) ∧ nextOf t m = e.step := by
  induction m with
  | nil => exact .inl ⟨fun k e h => by simp at h, rfl⟩
  | cons x m ih =>
    unfold nextOf
    by_cases hx : x.thread = t
    · exact .inr ⟨0, x, rfl, hx, fun k y hk => by omega, by rw [if_pos hx]⟩
    · rw [if_neg hx]
      rcases ih with ⟨h1, h2⟩ | ⟨d, e, h1, h2, h3, h4⟩
      · refine .inl ⟨fun k e he => ?_, h2⟩
        cases k with
        | zero => obtain rfl := Option.some.inj he; exact hx
        | succ k => exact h1 k e he
      · refine .inr ⟨d + 1, e, h1, h2, fun k y hk hy => ?_, h4⟩
        cases k with
        | zero => obtain rfl := Option.some.inj hy; exact hx
        | succ k => exact h3 k y (by omega) hy
theorem next_in (l : List Ev) (t : Int) (i : Nat) : ((∀ (k : Nat) (e : Ev), i + 1 ≤ k → l[k]? = some e → e.thread ≠ t) ∧ nextOf t (l.drop (i + 1)) = -1) ∨
    ∃ (j : Nat) (e : Ev), i < j ∧ l[j]? = some e ∧ e.thread = t ∧ (∀ (k : Nat) (x : Ev), i + 1 ≤ k → k < j → l[k]? = some x → x.thread ≠ t) ∧ nextOf t (l.drop (i + 1)) = e.step := by
  rcases next_cases t (l.drop (i + 1)) with ⟨h1, h2⟩ | ⟨d, e, h1, h2, h3, h4⟩
  · refine .inl ⟨fun k e hk he => ?_, h2⟩
    exact h1 (k - (i + 1)) e (by rw [List.getElem?_drop, show i + 1 + (k - (i + 1)) = k by omega]; exact he)
  · refine .inr ⟨i + 1 + d, e, by omega, by rw [← List.getElem?_drop]; exact h1, h2, fun k x hk hkd hx => ?_, h4⟩
    exact h3 (k - (i + 1)) x (by omega) (by rw [List.getElem?_drop, show i + 1 + (k - (i + 1)) = k by omega]; exact hx)
/-- What follows an Enter or a Wait of a thread. -/
theorem next_kind {l : List Ev} (h : FineTo l l.length) {i j : Nat} {x e : Ev} (hx : l[i]? = some x) (hk : x.kind = 1 ∨ x.kind = 3) (hij : i < j) (he : l[j]? = some e) (ht : e.thread = x.thread)
    (hn : ∀ (k : Nat) (y : Ev), i + 1 ≤ k → k < j → l[k]? = some y → y.thread ≠ x.thread) : e.kind = x.kind + 1 ∧ e.val = x.val := by
  obtain ⟨⟨_, _, _, k1, k4⟩, _, hok⟩ := good_prt (fine_at h he)
  obtain ⟨d, rfl⟩ : ∃ d, j = i + 1 + d := ⟨j - (i + 1), by omega⟩
  rw [st_skip d (fun k y h1 h2 h3 => by rw [ht]; exact hn k y h1 h2 h3), stS_take hx] at hok
  unfold upS at hok
  rw [if_pos ht] at hok
  unfold okS at hok
  rcases hk with hk | hk
  · rw [if_pos hk] at hok
    by_cases a1 : e.kind = 1
    · rw [if_pos a1] at hok; simp at hok
    · rw [if_neg a1] at hok
      by_cases a2 : e.kind = 2
      · rw [if_pos a2] at hok
        simp at hok
        exact ⟨by omega, hok.symm⟩
      · rw [if_neg a2] at hok
        by_cases a3 : e.kind = 3
        · rw [if_pos a3] at hok; simp at hok
        · rw [if_neg a3] at hok; simp at hok
  · rw [if_neg (show ¬ x.kind = 1 by omega), if_pos hk] at hok
    by_cases a1 : e.kind = 1
    · rw [if_pos a1] at hok; simp at hok
    · rw [if_neg a1] at hok
      by_cases a2 : e.kind = 2
      · rw [if_pos a2] at hok; simp at hok
      · rw [if_neg a2] at hok
        by_cases a3 : e.kind = 3
        · rw [if_pos a3] at hok; simp at hok
        · rw [if_neg a3] at hok
          simp at hok
          exact ⟨by omega, hok.symm⟩
/-- An entry is of event i. -/
def Src (q : Int) (l : List Ev) (s : Sec) (i : Nat) : Prop := ∃ e, l[i]? = some e ∧ e.kind = q ∧ s = ⟨e.thread, e.val, e.step, nextOf e.thread (l.drop (i + 1))⟩
theorem Src.shift {q : Int} {l : List Ev} {s : Sec} {i : Nat} (x : Ev) (h : Src q l s i) : Src q (x :: l) s (i + 1) := by
  obtain ⟨e, h1, h2, h3⟩ := h
  exact ⟨e, by simpa using h1, h2, by rw [h3]; rfl⟩
theorem secsK_src {q : Int} {l : List Ev} : ∀ {k : Nat} {s : Sec}, (secsK q l)[k]? = some s → ∃ i, Src q l s i := by
  induction l with
  | nil => intro k s h; simp [secsK] at h
  | cons e l ih =>
    intro k s h
    unfold secsK at h
    by_cases he : e.kind = q
    · rw [if_pos he] at h
      cases k with
      | zero => obtain rfl := Option.some.inj h; exact ⟨0, e, rfl, he, rfl⟩
      | succ k => obtain ⟨i, hi⟩ := ih (k := k) (s := s) (by simpa using h); exact ⟨i + 1, hi.shift e⟩
    · rw [if_neg he] at h
      obtain ⟨i, hi⟩ := ih h
      exact ⟨i + 1, hi.shift e⟩
theorem secsK_two {q : Int} {l : List Ev} : ∀ {a b : Nat} {s u : Sec}, (secsK q l)[a]? = some s → (secsK q l)[b]? = some u → a < b → ∃ i j, i < j ∧ Src q l s i ∧ Src q l u j := by
  induction l with
  | nil => intro a b s u h; simp [secsK] at h
  | cons e l ih =>
    intro a b s u h h' hab
    unfold secsK at h h'
    by_cases he : e.kind = q
    · rw [if_pos he] at h h'
      obtain ⟨b, rfl⟩ : ∃ b', b = b' + 1 := ⟨b - 1, by omega⟩
      rw [List.getElem?_cons_succ] at h'
      cases a with
      | zero =>
        obtain rfl := Option.some.inj h
        obtain ⟨j, hj⟩ := secsK_src h'
        exact ⟨0, j + 1, by omega, ⟨e, rfl, he, rfl⟩, hj.shift e⟩
      | succ a =>
        rw [List.getElem?_cons_succ] at h
        obtain ⟨i, j, hij, h1, h2⟩ := ih h h' (by omega)
        exact ⟨i + 1, j + 1, by omega, h1.shift e, h2.shift e⟩
    · rw [if_neg he] at h h'
      obtain ⟨i, j, hij, h1, h2⟩ := ih h h' hab
      exact ⟨i + 1, j + 1, by omega, h1.shift e, h2.shift e⟩
/-- Of two stretches of a thread the earlier one has ended before the later one begins. -/
theorem src_apart {l : List Ev} (h : FineTo l l.length) {p q : Int} (hp : p = 1 ∨ p = 3) (hq : q = 1 ∨ q = 3) {s u : Sec} {i j : Nat} (hs : Src p l s i) (hu : Src q l u j) (hij : i < j) (ht : s.thread = u.thread) :
    0 ≤ s.exit ∧ s.exit < u.enter := by
  obtain ⟨x, hx, xk, rfl⟩ := hs
  obtain ⟨y, hy, yk, rfl⟩ := hu
  dsimp only at ht ⊢
  rcases next_in l x.thread i with ⟨h1, _⟩ | ⟨m, e, him, he, het, hn, hne⟩
  · exact absurd ht.symm (h1 j y (by omega) hy)
  · rw [hne]
    have hk := (next_kind h hx (by omega) him he het hn).1
    have hmj : m ≤ j := by
      apply Nat.le_of_not_lt
      intro hlt
      exact hn j y (by omega) hlt hy ht.symm
    have hmj2 : m < j := by
      rcases Nat.lt_or_ge m j with h0 | h0
      · exact h0
      · obtain rfl : m = j := by omega
        rw [he] at hy
        obtain rfl := Option.some.inj hy
        omega
    exact ⟨(good_prt (fine_at h he)).1.1, (ord_lt h he hy hmj2).2 (by omega)⟩
theorem src_end1 {l : List Ev} (h : FineTo l l.length) {s : Sec} {i : Nat} (hs : Src 1 l s i) : s.exit = -1 ∨ s.enter < s.exit := by
  obtain ⟨x, hx, xk, rfl⟩ := hs
  dsimp only
  rcases next_in l x.thread i with ⟨_, h1⟩ | ⟨m, e, him, he, het, hn, hne⟩
  · exact .inl h1
  · rw [hne]
    have hk := (next_kind h hx (by omega) him he het hn).1
    exact .inr ((ord_lt h hx he him).2 (by omega))
theorem src_end3 {l : List Ev} (h : FineTo l l.length) {q : Int} {s : Sec} {i : Nat} (hs : Src q l s i) : s.exit = -1 ∨ s.enter ≤ s.exit := by
  obtain ⟨x, hx, xk, rfl⟩ := hs
  dsimp only
  rcases next_in l x.thread i with ⟨_, h1⟩ | ⟨m, e, him, he, het, hn, hne⟩
  · exact .inl h1
  · rw [hne]
    exact .inr (ord_lt h hx he him).1
theorem src_facts {l : List Ev} (h : FineTo l l.length) {q : Int} {s : Sec} {i : Nat} (hs : Src q l s i) : 0 ≤ s.enter ∧ 0 ≤ s.thread ∧ s.thread < 64 ∧ -1 ≤ s.exit := by
  have h3 := src_end3 h hs
  obtain ⟨x, hx, xk, rfl⟩ := hs
  dsimp only at h3 ⊢
  obtain ⟨⟨h1, h2, h4, _⟩, _⟩ := good_prt (fine_at h hx)
  exact ⟨h1, h2, h4, by omega⟩
/-- EventApart's conditions. -/
theorem ap1 {l : List Ev} (h : FineTo l l.length) {i : Nat} {s : Sec} (hs : (secsK 1 l)[i]? = some s) : ¬ (0 ≤ s.exit ∧ s.exit ≤ s.enter) := by
  obtain ⟨a, ha⟩ := secsK_src hs
  have := src_end1 h ha
  omega
theorem ap2 {l : List Ev} (h : FineTo l l.length) {q : Int} (hq : q = 1 ∨ q = 3) {i k : Nat} {s u : Sec} (hu : (secsK q l)[k]? = some u) (hs : (secsK q l)[i]? = some s) (hk : k < i) : ¬ (u.thread = s.thread ∧ (u.exit < 0 ∨ s.enter ≤ u.exit)) := by
  obtain ⟨a, b, hab, h1, h2⟩ := secsK_two hu hs hk
  rintro ⟨ht, hx⟩
  have := src_apart h hq hq h1 h2 hab ht
  omega
theorem ap3 {l : List Ev} (h : FineTo l l.length) {i k : Nat} {s u : Sec} (hu : (secsK 3 l)[k]? = some u) (hs : (secsK 1 l)[i]? = some s) :
    ¬ (u.thread = s.thread ∧ (s.exit < 0 ∨ u.enter ≤ s.exit) ∧ (u.exit < 0 ∨ s.enter ≤ u.exit)) := by
  obtain ⟨a, ha⟩ := secsK_src hu
  obtain ⟨b, hb⟩ := secsK_src hs
  rintro ⟨ht, hx, hy⟩
  rcases Nat.lt_trichotomy a b with hab | rfl | hab
  · have := src_apart h (.inr rfl) (.inl rfl) ha hb hab ht
    omega
  · obtain ⟨x, h1, h2, _⟩ := ha
    obtain ⟨y, h3, h4, _⟩ := hb
    rw [h1] at h3
    obtain rfl := Option.some.inj h3
    omega
  · have := src_apart h (.inl rfl) (.inr rfl) hb ha hab ht.symm
    omega
theorem ap4 {l : List Ev} (h : FineTo l l.length) {q : Int} {i : Nat} {s : Sec} (hs : (secsK q l)[i]? = some s) : ¬ (0 ≤ s.exit ∧ s.exit < s.enter) := by
  obtain ⟨a, ha⟩ := secsK_src hs
  have := src_end3 h ha
  omega
theorem fm_src {t : Int} {L : List Sec} : ∀ {k : Nat} {o : Sec}, (L.filterMap (openS t))[k]? = some o → ∃ (i : Nat) (s : Sec), L[i]? = some s ∧ openS t s = some o := by
  intro k o h
  obtain ⟨s, hs, he⟩ := List.mem_filterMap.1 (List.mem_of_getElem? h)
  obtain ⟨i, hi⟩ := List.getElem?_of_mem hs
  exact ⟨i, s, hi, he⟩
theorem fm_two {t : Int} : ∀ {L : List Sec} {a b : Nat} {o p : Sec}, (L.filterMap (openS t))[a]? = some o → (L.filterMap (openS t))[b]? = some p → a < b →
    ∃ (i j : Nat) (s u : Sec), i < j ∧ L[i]? = some s ∧ L[j]? = some u ∧ openS t s = some o ∧ openS t u = some p := by
  intro L
  induction L with
  | nil => intro a b o p h; simp at h
  | cons x L ih =>
    intro a b o p h h' hab
    rw [List.filterMap_cons] at h h'
    cases hx : openS t x with
    | none =>
      rw [hx] at h h'
      obtain ⟨i, j, s, u, hij, h1, h2, h3, h4⟩ := ih h h' hab
      exact ⟨i + 1, j + 1, s, u, by omega, by simpa using h1, by simpa using h2, h3, h4⟩
    | some z =>
      rw [hx] at h h'
      obtain ⟨b, rfl⟩ : ∃ b', b = b' + 1 := ⟨b - 1, by omega⟩
      simp only [List.getElem?_cons_succ] at h'
      cases a with
      | zero =>
        simp only [List.getElem?_cons_zero, Option.some.injEq] at h
        subst h
        obtain ⟨j, u, h1, h2⟩ := fm_src h'
        exact ⟨0, j + 1, x, u, by omega, rfl, by simpa using h1, hx, h2⟩
      | succ a =>
        simp only [List.getElem?_cons_succ] at h
        obtain ⟨i, j, s, u, hij, h1, h2, h3, h4⟩ := ih h h' (by omega)
        exact ⟨i + 1, j + 1, s, u, by omega, by simpa using h1, by simpa using h2, h3, h4⟩
theorem openS_some {t : Int} {s o : Sec} (h : openS t s = some o) : s.enter ≤ t ∧ (s.exit < 0 ∨ t < s.exit) ∧ o = { s with exit := -1 } := by
  unfold openS at h
  by_cases hc : s.enter ≤ t ∧ (s.exit < 0 ∨ t < s.exit)
  · rw [if_pos hc] at h
    exact ⟨hc.1, hc.2, (Option.some.inj h).symm⟩
  · rw [if_neg hc] at h
    cases h
theorem ap6 {l : List Ev} (h : FineTo l l.length) {t : Int} {i k : Nat} {o p : Sec} (ho : ((secsK 1 l).filterMap (openS t))[k]? = some o) (hp : ((secsK 1 l).filterMap (openS t))[i]? = some p) (hk : k < i) : o.thread ≠ p.thread := by
  obtain ⟨a, b, s, u, hab, h1, h2, h3, h4⟩ := fm_two ho hp hk
  obtain ⟨e1, e2, rfl⟩ := openS_some h3
  obtain ⟨e3, e4, rfl⟩ := openS_some h4
  obtain ⟨c, d, hcd, k1, k2⟩ := secsK_two h1 h2 hab
  intro ht
  have := src_apart h (.inl rfl) (.inl rfl) k1 k2 hcd ht
  omega
theorem find_uniq {α : Type} (p : α → Bool) : ∀ {L : List α} {i : Nat} {x : α}, L[i]? = some x → p x = true → (∀ (k : Nat) (y : α), k < i → L[k]? = some y → p y = false) → L.find? p = some x
  | [], i, x, h, _, _ => by simp at h
  | y :: L, 0, x, h, hp, _ => by
    obtain rfl := Option.some.inj h
    rw [List.find?_cons_of_pos hp]
  | y :: L, i + 1, x, h, hp, hn => by
    rw [List.find?_cons_of_neg (by rw [hn 0 y (by omega) rfl]; simp)]
    exact find_uniq p (by simpa using h) hp (fun k z hk hz => hn (k + 1) z (by omega) (by simpa using hz))
theorem ap7 {l : List Ev} (h : FineTo l l.length) {t : Int} {i : Nat} {o : Sec} (ho : ((secsK 1 l).filterMap (openS t))[i]? = some o) :
    (0 ≤ o.thread ∧ o.thread < 64) ∧ ((secsK 1 l).filterMap (openS t)).find? (fun s => decide (s.thread = o.thread)) = some o := by
  constructor
  · obtain ⟨a, s, h1, h2⟩ := fm_src ho
    obtain ⟨_, _, rfl⟩ := openS_some h2
    obtain ⟨b, hb⟩ := secsK_src h1
    have := src_facts h hb
    exact ⟨this.2.1, this.2.2.1⟩
  · exact find_uniq _ ho (by simp) (fun k y hk hy => by simpa using ap6 h hy ho hk)

/-! ### Prefixes -/
theorem filter_all {α : Type} (p : α → Bool) {l : List α} (h : ∀ x ∈ l, p x = true) : l.filter p = l := by
  rw [List.filter_eq_self]
  exact h
/-- The events up to a step are the first ones. -/
theorem pre_take {l : List Ev} (h : FineTo l l.length) (t : Int) : ∃ m, m ≤ l.length ∧ l.filter (fun e => decide (e.step ≤ t)) = l.take m ∧ (∀ (k : Nat) (e : Ev), k < m → l[k]? = some e → e.step ≤ t) ∧ (∀ (k : Nat) (e : Ev), m ≤ k → l[k]? = some e → t < e.step) := by
  suffices H : ∀ n, n ≤ l.length → ∃ m, m ≤ n ∧ (l.take n).filter (fun e => decide (e.step ≤ t)) = l.take m ∧ (∀ (k : Nat) (e : Ev), k < m → l[k]? = some e → e.step ≤ t) ∧ (∀ (k : Nat) (e : Ev), m ≤ k → k < n → l[k]? = some e → t < e.step) by
    obtain ⟨m, h1, h2, h3, h4⟩ := H l.length (Nat.le_refl _)
    rw [List.take_length] at h2
    exact ⟨m, h1, h2, h3, fun k e hk he => h4 k e hk (List.getElem?_eq_some_iff.1 he).1 he⟩
  intro n
  induction n with
  | zero => intro _; exact ⟨0, Nat.le_refl _, rfl, fun k e hk => by omega, fun k e _ hk => by omega⟩
  | succ n ih =>
    intro hn
    obtain ⟨m, h1, h2, h3, h4⟩ := ih (by omega)
    have he : l[n]? = some l[n] := List.getElem?_eq_getElem (by omega)
    have hft := filter_take (fun e : Ev => decide (e.step ≤ t)) he
    by_cases hc : l[n].step ≤ t
    · rw [if_pos (by simpa using hc)] at hft
      have hmn : m = n := by
        rcases Nat.lt_or_ge m n with h0 | h0
        · have hm : l[m]? = some l[m] := List.getElem?_eq_getElem (by omega)
          have a1 := h4 m _ (Nat.le_refl _) h0 hm
          have a2 := (ord_lt h hm he h0).1
          omega
        · omega
      subst hmn
      refine ⟨m + 1, Nat.le_refl _, ?_, ?_, fun k e h5 h6 => by omega⟩
      · rw [hft, h2, take_snocE he]
      · intro k e hk hke
        by_cases hkm : k = m
        · subst hkm
          rw [he] at hke
          obtain rfl := Option.some.inj hke
          exact hc
        · exact h3 k e (by omega) hke
    · rw [if_neg (by simpa using hc)] at hft
      refine ⟨m, by omega, by rw [hft, h2], h3, fun k e h5 h6 hke => ?_⟩
      by_cases hkn : k = n
      · subst hkn
        rw [he] at hke
        obtain rfl := Option.some.inj hke
        omega
      · exact h4 k e h5 (by omega) hke
theorem prevE_take (l : List Ev) (m k : Nat) (hk : k < m) : prevE (l.take m) k = prevE l k := by
  unfold prevE
  by_cases h0 : k = 0
  · rw [if_pos h0, if_pos h0]
  · rw [if_neg h0, if_neg h0, List.getElem?_take, if_pos (by omega)]
theorem goodE_take (l : List Ev) (m k : Nat) (e : Ev) (hk : k < m) : goodE (l.take m) k e = goodE l k e := by
  unfold goodE
  rw [prevE_take l m k hk, List.take_take, Nat.min_eq_left (by omega)]
theorem fine_take {l : List Ev} (h : FineTo l l.length) (m : Nat) : FineTo (l.take m) (l.take m).length := by
  intro j e hj he
  rw [List.length_take] at hj
  rw [List.getElem?_take, if_pos (by omega)] at he
  rw [goodE_take l m j e (by omega)]
  exact h j e (by omega) he
/-- What a prefix shows of an entry. -/
def cutS (t : Int) (s : Sec) : Option Sec := if t < s.enter then none else some { s with exit := if t < s.exit then -1 else s.exit }
theorem next_cut {t th : Int} : ∀ (l : List Ev) (m : Nat), (∀ (k : Nat) (e : Ev), k < m → l[k]? = some e → e.step ≤ t) → (∀ (k : Nat) (e : Ev), m ≤ k → l[k]? = some e → t < e.step) → -1 ≤ t → nextOf th (l.take m) = if t < nextOf th l then -1 else nextOf th l
  | [], m, _, _, ht => by
    rw [List.take_nil]
    show (-1 : Int) = if t < -1 then -1 else -1
    rw [if_neg (by omega)]
  | e :: l, 0, _, h2, ht => by
    have hall : ∀ (k : Nat) (x : Ev), (e :: l)[k]? = some x → t < x.step := fun k x hx => h2 k x (by omega) hx
    rw [List.take_zero]
    show (-1 : Int) = _
    generalize hN : nextOf th (e :: l) = N
    rcases next_cases th (e :: l) with ⟨_, h⟩ | ⟨d, x, h1, _, _, h⟩
    · rw [if_neg (by omega)]; omega
    · have := hall d x h1
      rw [if_pos (by omega)]
  | e :: l, m + 1, h1, h2, ht => by
    rw [List.take_succ_cons]
    unfold nextOf
    by_cases hx : e.thread = th
    · rw [if_pos hx, if_pos hx, if_neg (by have := h1 0 e (by omega) rfl; omega)]
    · rw [if_neg hx, if_neg hx]
      exact next_cut l m (fun k x hk hx => h1 (k + 1) x (by omega) (by simpa using hx)) (fun k x hk hx => h2 (k + 1) x (by omega) (by simpa using hx)) ht
theorem secs_cut {t q : Int} : ∀ (l : List Ev) (m : Nat), (∀ (k : Nat) (e : Ev), k < m → l[k]? = some e → e.step ≤ t) → (∀ (k : Nat) (e : Ev), m ≤ k → l[k]? = some e → t < e.step) → -1 ≤ t → secsK q (l.take m) = (secsK q l).filterMap (cutS t)
  | [], m, _, _, _ => by simp [secsK]
  | e :: l, 0, h1, h2, ht => by
    have hrec := secs_cut l 0 (q := q) (fun k x hk => by omega) (fun k x hk hx => h2 (k + 1) x (by omega) (by simpa using hx)) ht
    have he := h2 0 e (by omega) rfl
    rw [List.take_zero] at hrec ⊢
    show [] = _
    unfold secsK
    by_cases hk : e.kind = q
    · rw [if_pos hk, List.filterMap_cons]
      have : cutS t ⟨e.thread, e.val, e.step, nextOf e.thread l⟩ = none := by unfold cutS; rw [if_pos he]
      rw [this, ← hrec]
      rfl
    · rw [if_neg hk, ← hrec]
      rfl
  | e :: l, m + 1, h1, h2, ht => by
    have hrec := secs_cut l m (q := q) (fun k x hk hx => h1 (k + 1) x (by omega) (by simpa using hx)) (fun k x hk hx => h2 (k + 1) x (by omega) (by simpa using hx)) ht
    have hnx := next_cut (th := e.thread) l m (fun k x hk hx => h1 (k + 1) x (by omega) (by simpa using hx)) (fun k x hk hx => h2 (k + 1) x (by omega) (by simpa using hx)) ht
    have he := h1 0 e (by omega) rfl
    rw [List.take_succ_cons]
    unfold secsK
    by_cases hk : e.kind = q
    · rw [if_pos hk, if_pos hk, List.filterMap_cons]
      have : cutS t ⟨e.thread, e.val, e.step, nextOf e.thread l⟩ = some ⟨e.thread, e.val, e.step, nextOf e.thread (l.take m)⟩ := by unfold cutS; rw [if_neg (by dsimp only; omega), hnx]
      rw [this, hrec]
    · rw [if_neg hk, if_neg hk, hrec]
theorem open_cut {t : Int} : ∀ (L : List Sec), (∀ s ∈ L, -1 ≤ s.exit) → L.filterMap (openS t) = (L.filterMap (cutS t)).filter (fun s => decide (s.exit < 0))
  | [], _ => rfl
  | s :: L, h => by
    have ih := open_cut (t := t) L (fun x hx => h x (by simp [hx]))
    have hs := h s (by simp)
    rw [List.filterMap_cons, List.filterMap_cons]
    by_cases h1 : t < s.enter
    · have e1 : openS t s = none := by unfold openS; rw [if_neg (by omega)]
      have e2 : cutS t s = none := by unfold cutS; rw [if_pos h1]
      rw [e1, e2]
      exact ih
    · have e2 : cutS t s = some { s with exit := if t < s.exit then -1 else s.exit } := by unfold cutS; rw [if_neg h1]
      rw [e2]
      by_cases h2 : t < s.exit
      · have e1 : openS t s = some { s with exit := -1 } := by unfold openS; rw [if_pos ⟨by omega, .inr h2⟩]
        rw [e1]
        simp only [if_pos h2]
        rw [List.filter_cons_of_pos (by simp), ih]
      · by_cases h3 : s.exit < 0
        · have e1 : openS t s = some { s with exit := -1 } := by unfold openS; rw [if_pos ⟨by omega, .inl h3⟩]
          rw [e1]
          simp only [if_neg h2]
          rw [List.filter_cons_of_pos (by simpa using h3), ih]
          have : s.exit = -1 := by omega
          rw [← this]
        · have e1 : openS t s = none := by unfold openS; rw [if_neg (by omega)]
          rw [e1]
          simp only [if_neg h2]
          rw [List.filter_cons_of_neg (by simpa using h3), ih]

/-! ### The events of one thread -/
theorem upS_thread (s s' : Int → Int × Int) (t : Int) (e : Ev) (h : s t = s' t) : upS s e t = upS s' e t := by
  unfold upS
  rw [h]
theorem foldl_thread (t : Int) : ∀ (l : List Ev) (s s' : Int → Int × Int), s t = s' t → (l.foldl upS s) t = ((l.filter fun e => decide (e.thread = t)).foldl upS s') t
  | [], s, s', h => h
  | e :: l, s, s', h => by
    by_cases he : e.thread = t
    · rw [List.filter_cons_of_pos (by simpa using he)]
      exact foldl_thread t l _ _ (upS_thread s s' t e h)
    · rw [List.filter_cons_of_neg (by simpa using he)]
      refine foldl_thread t l _ _ ?_
      unfold upS
      rw [if_neg (fun h => he h.symm)]
      exact h
theorem stS_thread (t : Int) (l : List Ev) : stS l t = stS (l.filter fun e => decide (e.thread = t)) t := foldl_thread t l _ _ rfl
/-- Element j of the filtered list is element i of the list. -/
theorem filter_src {α : Type} (p : α → Bool) : ∀ {l : List α} {j : Nat} {x : α}, (l.filter p)[j]? = some x → ∃ i, l[i]? = some x ∧ p x = true ∧ (l.take i).filter p = (l.filter p).take j ∧ j ≤ i
  | [], j, x, h => by simp at h
  | y :: l, j, x, h => by
    by_cases hy : p y = true
    · rw [List.filter_cons_of_pos hy] at h ⊢
      cases j with
      | zero => obtain rfl := Option.some.inj h; exact ⟨0, rfl, hy, rfl, Nat.le_refl _⟩
      | succ j =>
        obtain ⟨i, h1, h2, h3, h4⟩ := filter_src p (l := l) (j := j) (x := x) (by simpa using h)
        exact ⟨i + 1, by simpa using h1, h2, by rw [List.take_succ_cons, List.filter_cons_of_pos hy, h3, List.take_succ_cons], by omega⟩
    · rw [List.filter_cons_of_neg hy] at h ⊢
      obtain ⟨i, h1, h2, h3, h4⟩ := filter_src p h
      exact ⟨i + 1, by simpa using h1, h2, by rw [List.take_succ_cons, List.filter_cons_of_neg hy, h3], by omega⟩
theorem filter_two {α : Type} (p : α → Bool) : ∀ {l : List α} {j : Nat} {x y : α}, (l.filter p)[j]? = some x → (l.filter p)[j + 1]? = some y → ∃ i k, i < k ∧ l[i]? = some x ∧ l[k]? = some y ∧ (∀ (m : Nat) (z : α), i < m → m < k → l[m]? = some z → p z = false)
  | [], j, x, y, h, _ => by simp at h
  | z :: l, j, x, y, h, h' => by
    by_cases hz : p z = true
    · rw [List.filter_cons_of_pos hz] at h h'
      cases j with
      | zero =>
        obtain rfl := Option.some.inj h
        simp only [Nat.zero_add, List.getElem?_cons_succ] at h'
        obtain ⟨i, h1, h2, h3, h4⟩ := filter_src p h'
        refine ⟨0, i + 1, by omega, rfl, by simpa using h1, fun m w hm hmi hw => ?_⟩
        obtain ⟨m, rfl⟩ : ∃ m', m = m' + 1 := ⟨m - 1, by omega⟩
        rw [List.take_zero, List.filter_eq_nil_iff] at h3
        have hwm : w ∈ l.take i := List.mem_of_getElem? (i := m) (by rw [List.getElem?_take, if_pos (by omega)]; simpa using hw)
        simpa using h3 w hwm
      | succ j =>
        obtain ⟨i, k, hik, h1, h2, h3⟩ := filter_two p (l := l) (j := j) (x := x) (y := y) (by simpa using h) (by simpa using h')
        refine ⟨i + 1, k + 1, by omega, by simpa using h1, by simpa using h2, fun m w hm hmi hw => ?_⟩
        obtain ⟨m, rfl⟩ : ∃ m', m = m' + 1 := ⟨m - 1, by omega⟩
        exact h3 m w (by omega) (by omega) (by simpa using hw)
    · rw [List.filter_cons_of_neg hz] at h h'
      obtain ⟨i, k, hik, h1, h2, h3⟩ := filter_two p h h'
      refine ⟨i + 1, k + 1, by omega, by simpa using h1, by simpa using h2, fun m w hm hmi hw => ?_⟩
      obtain ⟨m, rfl⟩ : ∃ m', m = m' + 1 := ⟨m - 1, by omega⟩
      exact h3 m w (by omega) (by omega) (by simpa using hw)
theorem of_order {l : List Ev} (h : FineTo l l.length) {t : Int} {j : Nat} {x y : Ev} (hx : (l.filter fun e => decide (e.thread = t))[j]? = some x) (hy : (l.filter fun e => decide (e.thread = t))[j + 1]? = some y) : x.step ≤ y.step ∧ (x.step < y.step ∨ (x.kind = 3 ∧ y.kind = 4)) := by
  have tx : x.thread = t := by
    have := (List.mem_filter.1 (List.mem_of_getElem? hx)).2
    simpa using this
  have ty : y.thread = t := by
    have := (List.mem_filter.1 (List.mem_of_getElem? hy)).2
    simpa using this
  obtain ⟨i, k, hik, h1, h2, h3⟩ := filter_two _ hx hy
  have ho := ord_lt h h1 h2 hik
  refine ⟨ho.1, ?_⟩
  by_cases hy4 : y.kind = 4
  · by_cases hs : x.step < y.step
    · exact .inl hs
    · refine .inr ⟨?_, hy4⟩
      have hn : ∀ m z, i + 1 ≤ m → m < k → l[m]? = some z → z.thread ≠ x.thread := fun m z a b c => by
        have := h3 m z (by omega) b c
        rw [tx]
        simpa using this
      obtain ⟨d, rfl⟩ : ∃ d, k = i + 1 + d := ⟨k - (i + 1), by omega⟩
      obtain ⟨⟨_, _, _, _, _⟩, _, hok⟩ := good_prt (fine_at h h2)
      rw [st_skip d (fun m z a b c => by rw [ty, ← tx]; exact hn m z a b c), stS_take h1] at hok
      unfold upS okS at hok
      rw [if_neg (show ¬ y.kind = 1 by omega), if_neg (show ¬ y.kind = 2 by omega), if_neg (show ¬ y.kind = 3 by omega), if_pos (show y.thread = x.thread by rw [ty, tx])] at hok
      by_cases a1 : x.kind = 1
      · rw [if_pos a1] at hok; simp at hok
      · rw [if_neg a1] at hok
        by_cases a3 : x.kind = 3
        · exact a3
        · rw [if_neg a3] at hok; simp at hok
  · exact .inl (ho.2 hy4)
theorem fine_of {l : List Ev} (h : FineTo l l.length) (t : Int) : FineTo (l.filter fun e => decide (e.thread = t)) (l.filter fun e => decide (e.thread = t)).length := by
  intro j e hj he
  obtain ⟨i, h1, h2, h3, _⟩ := filter_src _ he
  have het : e.thread = t := by simpa using h2
  have hg := fine_at h h1
  unfold goodE at hg ⊢
  simp only [Bool.and_eq_true] at hg ⊢
  obtain ⟨⟨g1, g2⟩, g3⟩ := hg
  refine ⟨⟨g1, ?_⟩, ?_⟩
  · unfold prevE
    by_cases h0 : j = 0
    · rw [if_pos h0]; rfl
    · rw [if_neg h0]
      obtain ⟨j, rfl⟩ : ∃ j', j = j' + 1 := ⟨j - 1, by omega⟩
      rw [Nat.add_sub_cancel]
      have hp : (l.filter fun e => decide (e.thread = t))[j]? = some (l.filter fun e => decide (e.thread = t))[j] := List.getElem?_eq_getElem (by omega)
      have ho := of_order h hp he
      have htp : ((l.filter fun e => decide (e.thread = t))[j]).thread = t := by
        have := (List.mem_filter.1 (List.mem_of_getElem? hp)).2
        simpa using this
      rw [hp]
      unfold behind
      dsimp only
      simp only [Bool.or_eq_true, Bool.and_eq_true, decide_eq_true_eq]
      rcases ho with ⟨o1, o2 | ⟨o2, o3⟩⟩
      · exact .inl o2
      · by_cases o4 : (l.filter fun e => decide (e.thread = t))[j].step < e.step
        · exact .inl o4
        · exact .inr ⟨⟨⟨by omega, o2⟩, o3⟩, by rw [het, htp]⟩
  · have : stS (List.take j (l.filter fun e => decide (e.thread = t))) e.thread = stS (l.take i) e.thread := by
      rw [← h3, het]
      exact (stS_thread t (l.take i)).symm
    rw [this]
    exact g3
/-- How many events have threads below T. -/
def cntTo (l : List Ev) (T : Nat) : Nat := (l.filter fun e => decide (0 ≤ e.thread ∧ e.thread < (T : Int))).length
theorem cntTo_zero (l : List Ev) : cntTo l 0 = 0 := by
  unfold cntTo
  rw [List.length_eq_zero_iff, List.filter_eq_nil_iff]
  intro e _
  simp
theorem cntTo_succ (l : List Ev) (T : Nat) : cntTo l (T + 1) = cntTo l T + (l.filter fun e => decide (e.thread = (T : Int))).length := by
  unfold cntTo
  induction l with
  | nil => rfl
  | cons e l ih =>
    by_cases h1 : e.thread = (T : Int)
    · rw [List.filter_cons_of_pos (by simp; omega), List.filter_cons_of_neg (by simp; omega), List.filter_cons_of_pos (by simpa using h1), List.length_cons, List.length_cons, ih]
      omega
    · by_cases h2 : 0 ≤ e.thread ∧ e.thread < (T : Int)
      · rw [List.filter_cons_of_pos (by simp; omega), List.filter_cons_of_pos (by simpa using h2), List.filter_cons_of_neg (by simpa using h1), List.length_cons, List.length_cons, ih]
        omega
      · rw [List.filter_cons_of_neg (by simp; omega), List.filter_cons_of_neg (by simpa using h2), List.filter_cons_of_neg (by simpa using h1), ih]
theorem cntTo_le (l : List Ev) (T : Nat) : cntTo l T ≤ l.length := List.length_filter_le _ _
theorem cntTo_all {l : List Ev} (h : FineTo l l.length) : cntTo l 64 = l.length := by
  unfold cntTo
  rw [filter_all]
  intro e he
  obtain ⟨i, hi⟩ := List.getElem?_of_mem he
  obtain ⟨⟨_, h1, h2, _⟩, _⟩ := good_prt (fine_at h hi)
  simp
  omega
end Go.Proofs.Ythkppihfdlmhgaa
