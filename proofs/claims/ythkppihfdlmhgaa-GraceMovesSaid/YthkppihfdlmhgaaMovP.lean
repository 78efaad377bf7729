/- Lists of events whose ends are moved, in plain lists. -/
import Derived.Test.YthkppihfdlmhgaaGraP
namespace Go.Proofs.Ythkppihfdlmhgaa
open Go Go.RowKit
set_option linter.unusedVariables false

/-- Event e' is e, its step moved. -/
structure Mv (e e' : Ev) : Prop where
  th : e'.thread = e.thread
  kd : e'.kind = e.kind
  vl : e'.val = e.val
  lo : 4 * e.step + 3 ≤ e'.step
  hi : e'.step ≤ 4 * e.step + 5
  eq : e.kind = 1 ∨ e.kind = 3 → e'.step = 4 * e.step + 4
  up : e.kind = 4 → 4 * e.step + 4 ≤ e'.step
/-- The first n events are moved. -/
structure Moved (l m : List Ev) (n : Nat) : Prop where
  len : m.length = l.length
  mv : ∀ j e, j < n → l[j]? = some e → ∃ e', m[j]? = some e' ∧ Mv e e'
  same : ∀ j, n ≤ j → m[j]? = l[j]?
theorem moved_zero (l : List Ev) : Moved l l 0 := ⟨rfl, fun j e h => by omega, fun j _ => rfl⟩
theorem moved_step {l m : List Ev} {k : Nat} {e e' : Ev} (h : Moved l m k) (he : l[k]? = some e) (hm : Mv e e') : Moved l (m.set k e') (k + 1) := by
  have hk : k < m.length := by rw [h.len]; exact (List.getElem?_eq_some_iff.1 he).1
  refine ⟨by rw [List.length_set, h.len], fun j x hj hx => ?_, fun j hj => ?_⟩
  · by_cases hjk : j = k
    · subst hjk
      rw [he] at hx
      obtain rfl := Option.some.inj hx
      exact ⟨e', by rw [List.getElem?_set_self hk], hm⟩
    · rw [List.getElem?_set_ne (fun h => hjk h.symm)]
      exact h.mv j x (by omega) hx
  · rw [List.getElem?_set_ne (by omega)]
    exact h.same j (by omega)
theorem moved_get {l m : List Ev} {n k : Nat} {e' : Ev} (h : Moved l m n) (hk : k < n) (he : m[k]? = some e') : ∃ e, l[k]? = some e ∧ Mv e e' := by
  have hl : k < l.length := by rw [← h.len]; exact (List.getElem?_eq_some_iff.1 he).1
  obtain ⟨x, hx, hm⟩ := h.mv k _ hk (List.getElem?_eq_getElem hl)
  rw [he] at hx
  obtain rfl := Option.some.inj hx
  exact ⟨_, List.getElem?_eq_getElem hl, hm⟩
def g4 (p : Int × Int) : Int × Int := (p.1, 4 * p.2 + 4)
theorem moved_states {l m : List Ev} {n : Nat} (h : Moved l m n) : ∀ k, k ≤ n → k ≤ l.length → stS (m.take k) = stS (l.take k) ∧ (∀ t, opS (m.take k) t = (opS (l.take k) t).map g4) ∧ (∀ t, waS (m.take k) t = (waS (l.take k) t).map g4)
  | 0, _, _ => ⟨rfl, fun t => rfl, fun t => rfl⟩
  | k + 1, hk, hl => by
    obtain ⟨h1, h2, h3⟩ := moved_states h k (by omega) (by omega)
    have he : l[k]? = some l[k] := List.getElem?_eq_getElem (by omega)
    obtain ⟨e', he', hm⟩ := h.mv k _ (by omega) he
    generalize l[k] = e at he hm
    refine ⟨?_, fun t => ?_, fun t => ?_⟩
    · rw [stS_take he', stS_take he, h1]
      funext t
      unfold upS
      rw [hm.th, hm.kd, hm.vl]
    · rw [opS_take he', opS_take he]
      unfold opU
      rw [hm.th, hm.kd, hm.vl]
      by_cases ht : t = e.thread
      · rw [if_pos ht, if_pos ht]
        by_cases h1k : e.kind = 1
        · rw [if_pos h1k, if_pos h1k, hm.eq (.inl h1k)]
          rfl
        · rw [if_neg h1k, if_neg h1k]
          by_cases h2k : e.kind = 2
          · rw [if_pos h2k, if_pos h2k]; rfl
          · rw [if_neg h2k, if_neg h2k]; exact h2 t
      · rw [if_neg ht, if_neg ht]; exact h2 t
    · rw [waS_take he', waS_take he]
      unfold waU
      rw [hm.th, hm.kd, hm.vl]
      by_cases ht : t = e.thread ∧ e.kind = 3
      · rw [if_pos ht, if_pos ht, hm.eq (.inr ht.2)]
        rfl
      · rw [if_neg ht, if_neg ht]; exact h3 t
theorem opS_step {l : List Ev} {t : Int} {p : Int × Int} (h : opS l t = some p) : ∃ e ∈ l, p.2 = e.step := by
  suffices g : ∀ (l : List Ev) (s : Int → Option (Int × Int)), l.foldl opU s t = some p → s t = some p ∨ ∃ e ∈ l, p.2 = e.step by
    rcases g l _ h with h | h
    · cases h
    · exact h
  intro l
  induction l with
  | nil => intro s h; exact .inl h
  | cons e l ih =>
    intro s h
    rcases ih _ h with h | ⟨x, hx, ht⟩
    · unfold opU at h
      by_cases he : t = e.thread
      · rw [if_pos he] at h
        by_cases h1 : e.kind = 1
        · rw [if_pos h1] at h
          exact .inr ⟨e, by simp, by rw [← Option.some.inj h]⟩
        · rw [if_neg h1] at h
          by_cases h2 : e.kind = 2
          · rw [if_pos h2] at h; cases h
          · rw [if_neg h2] at h; exact .inl h
      · rw [if_neg he] at h; exact .inl h
    · exact .inr ⟨x, by simp [hx], ht⟩
theorem moved_ok {l m : List Ev} (h : Moved l m l.length) (hf : FineTo l l.length) (hl : LateTo l l.length) (hs : ∀ (j : Nat) (e : Ev), l[j]? = some e → 0 ≤ e.step) : gAt m = 0 ∧ gEr m = 0 := by
  refine gk_one (gk_at m) (.inr (.inr ⟨fun k e' hk he' => ?_, fun k e' hk he' => ?_, rfl, rfl⟩))
  · rw [h.len] at hk
    obtain ⟨e, he, hm⟩ := moved_get h hk he'
    obtain ⟨h1, _, _⟩ := moved_states h k (by omega) (by omega)
    have hg := hf k e hk he
    unfold goodE at hg ⊢
    simp only [Bool.and_eq_true] at hg ⊢
    obtain ⟨⟨hr, hb⟩, ho⟩ := hg
    refine ⟨⟨?_, ?_⟩, ?_⟩
    · have h0 := hs k e he
      have := hm.lo
      unfold rightE at hr ⊢
      rw [hm.th, hm.kd]
      simp only [Bool.and_eq_true, decide_eq_true_eq] at hr ⊢
      exact ⟨⟨by omega, hr.1.2⟩, hr.2⟩
    · unfold prevE at hb ⊢
      by_cases hk0 : k = 0
      · rw [if_pos hk0]; rfl
      · rw [if_neg hk0] at hb ⊢
        have hp : l[k - 1]? = some l[k - 1] := List.getElem?_eq_getElem (by omega)
        obtain ⟨p', hp', hpm⟩ := h.mv (k - 1) _ (by omega) hp
        generalize l[k - 1] = p at hp hpm
        rw [hp] at hb
        rw [hp']
        unfold behind at hb ⊢
        simp only [Bool.or_eq_true, Bool.and_eq_true, decide_eq_true_eq] at hb ⊢
        have a1 := hpm.hi
        have a2 := hm.lo
        rcases hb with hb | ⟨⟨⟨b1, b2⟩, b3⟩, b4⟩
        · left; omega
        · have a3 := hpm.eq (.inr b2)
          have a4 := hm.up b3
          by_cases hq : p'.step < e'.step
          · exact .inl hq
          · refine .inr ⟨⟨⟨?_, ?_⟩, ?_⟩, ?_⟩
            · omega
            · rw [hpm.kd]; exact b2
            · rw [hm.kd]; exact b3
            · rw [hm.th, hpm.th]; exact b4
    · rw [h1, hm.th]
      unfold okS at ho ⊢
      rw [hm.kd, hm.vl]
      exact ho
  · rw [h.len] at hk
    obtain ⟨e, he, hm⟩ := moved_get h hk he'
    obtain ⟨_, h2, h3⟩ := moved_states h k (by omega) (by omega)
    have hb := hl k e hk he
    by_cases hk4 : e.kind = 4
    · refine earB_all fun t => ?_
      cases ho : opS (l.take k) t with
      | none =>
        unfold lateB
        rw [h2 t, ho]
        rfl
      | some p =>
        have hlate : lateB (l.take k) e t = false := by
          cases hx : lateB (l.take k) e t with
          | false => rfl
          | true => rw [earB_one hk4 hx] at hb; cases hb
        unfold lateB at hlate ⊢
        rw [ho] at hlate
        rw [h2 t, ho]
        have hp0 : 0 ≤ p.2 := by
          obtain ⟨x, hx, hxp⟩ := opS_step ho
          obtain ⟨j, hj⟩ := List.getElem?_of_mem (List.mem_of_mem_take hx)
          have := hs j x hj
          omega
        dsimp only [Option.map_some] at hlate ⊢
        rw [hm.vl, hm.th]
        have hfr : decide ((g4 p).2 < fromW (m.take k) e.thread) = decide (p.2 < fromW (l.take k) e.thread) := by
          unfold fromW g4
          rw [h3 e.thread]
          cases waS (l.take k) e.thread with
          | none =>
            simp
            all_goals omega
          | some q =>
            simp [g4]
            all_goals omega
        rw [hfr]
        exact hlate
    · exact earB_not (by rw [hm.kd]; exact hk4)
theorem evs_set0 : ∀ (l : List Ev) (i : Nat) (e : Ev) (x : Int), l[i]? = some e → evs (l.set i { e with step := x }) = (evs l).set (i * 4) (.int .i64 x)
  | [], i, e, x, h => by cases h
  | y :: l, 0, e, x, h => by
    obtain rfl := Option.some.inj h
    rfl
  | y :: l, i + 1, e, x, h => by
    have ih := evs_set0 l i e x h
    rw [List.set_cons_succ]
    unfold evs at ih ⊢
    rw [List.flatMap_cons, List.flatMap_cons, ih, List.set_append_right _ _ (by rw [evC_len]; omega), evC_len, show (i + 1) * 4 - 4 = i * 4 by omega]
theorem evs_at (l : List Ev) (k : Nat) (e : Ev) (j : Nat) (h : l[k]? = some e) (hj : j < 4) : (evs l)[k * 4 + j]? = (evC e)[j]? := flat_get evC 4 evC_len l k e j h hj
end Go.Proofs.Ythkppihfdlmhgaa
