/- Lists sorted by a key: what a key finds determines the list. Plain Lean. -/
import Derived.Test.YtfghkmhabpagkaaCheck
namespace Go.Proofs.Ytfghkmhabpagkaa
open Go

section
variable {α : Type} (key : α → Int)
/-- The keys strictly increase. -/
def Srt (l : List α) : Prop := l.Pairwise fun a b => key a < key b
/-- The element of a key. -/
def look (l : List α) (k : Int) : Option α := l.find? fun a => key a == k

variable {key}
theorem look_nil (k : Int) : look key ([] : List α) k = none := rfl
theorem look_cons (a : α) (l : List α) (k : Int) : look key (a :: l) k = if key a = k then some a else look key l k := by
  unfold look
  rw [List.find?_cons]
  by_cases h : key a = k
  · simp [h]
  · have : (key a == k) = false := by simp [h]
    rw [this, if_neg h]
theorem look_some {l : List α} {k : Int} {a : α} (h : look key l k = some a) : a ∈ l ∧ key a = k := by
  unfold look at h
  have h1 := List.mem_of_find?_eq_some h
  have h2 := List.find?_some h
  exact ⟨h1, by simpa using h2⟩
theorem look_none {l : List α} {k : Int} : look key l k = none ↔ ∀ a ∈ l, key a ≠ k := by
  unfold look
  rw [List.find?_eq_none]
  simp
theorem srt_nil : Srt key ([] : List α) := List.Pairwise.nil
theorem srt_cons {a : α} {l : List α} : Srt key (a :: l) ↔ (∀ b ∈ l, key a < key b) ∧ Srt key l := List.pairwise_cons
theorem look_mem {l : List α} (hs : Srt key l) {a : α} (ha : a ∈ l) : look key l (key a) = some a := by
  induction l with
  | nil => cases ha
  | cons b l ih =>
    obtain ⟨h1, h2⟩ := srt_cons.1 hs
    rw [look_cons]
    rcases List.mem_cons.1 ha with rfl | hm
    · rw [if_pos rfl]
    · have := h1 a hm
      rw [if_neg (by omega)]
      exact ih h2 hm
theorem look_lt {a : α} {l : List α} (hs : Srt key (a :: l)) {k : Int} (hk : k ≤ key a) : look key l k = none := by
  rw [look_none]
  intro b hb
  have := (srt_cons.1 hs).1 b hb
  omega
/-- Two sorted lists in which every key finds the same are the same. -/
theorem srt_ext {l m : List α} (hl : Srt key l) (hm : Srt key m) (h : ∀ k, look key l k = look key m k) : l = m := by
  induction l generalizing m with
  | nil =>
    cases m with
    | nil => rfl
    | cons b m =>
      have := h (key b)
      rw [look_nil, look_cons, if_pos rfl] at this
      cases this
  | cons a l ih =>
    cases m with
    | nil =>
      have := h (key a)
      rw [look_nil, look_cons, if_pos rfl] at this
      cases this
    | cons b m =>
      have ha := h (key a)
      have hb := h (key b)
      rw [look_cons, if_pos rfl, look_cons] at ha
      rw [look_cons, look_cons, if_pos rfl] at hb
      have hab : key a = key b := by
        by_cases h1 : key b = key a
        · exact h1.symm
        · rw [if_neg h1] at ha
          rw [if_neg (fun e => h1 e.symm)] at hb
          have m1 := (srt_cons.1 hm).1 a (look_some ha.symm).1
          have m2 := (srt_cons.1 hl).1 b (look_some hb).1
          omega
      rw [if_pos hab.symm] at ha
      obtain rfl := Option.some.inj ha
      congr 1
      refine ih (srt_cons.1 hl).2 (srt_cons.1 hm).2 fun k => ?_
      by_cases hk : k ≤ key a
      · rw [look_lt hl hk, look_lt hm hk]
      · have := h k
        rwa [look_cons, look_cons, if_neg (by omega), if_neg (by omega)] at this
/-- A list put together of sorted parts. -/
theorem srt_cons_of_look {a : α} {l : List α} (hs : Srt key l) (h : ∀ k, k ≤ key a → look key l k = none) : Srt key (a :: l) := by
  refine srt_cons.2 ⟨fun b hb => ?_, hs⟩
  by_cases hlt : key a < key b
  · exact hlt
  · have := look_none.1 (h (key b) (by omega)) b hb
    exact absurd rfl this
/-- Neighbours in order: the whole list is. -/
theorem srt_of_next : ∀ {l : List α}, (∀ i a b, l[i]? = some a → l[i + 1]? = some b → key a < key b) → Srt key l
  | [], _ => srt_nil
  | [a], _ => List.pairwise_singleton _ a
  | a :: b :: l, h => by
    have hs : Srt key (b :: l) := srt_of_next fun i x y hx hy => h (i + 1) x y (by simpa using hx) (by simpa using hy)
    refine srt_cons.2 ⟨fun c hc => ?_, hs⟩
    have hab := h 0 a b rfl rfl
    rcases List.mem_cons.1 hc with rfl | hm
    · exact hab
    · have := (srt_cons.1 hs).1 c hm
      omega
theorem srt_next {l : List α} (h : Srt key l) {i : Nat} {a b : α} (ha : l[i]? = some a) (hb : l[i + 1]? = some b) : key a < key b := by
  obtain ⟨h1, rfl⟩ := List.getElem?_eq_some_iff.1 ha
  obtain ⟨h2, rfl⟩ := List.getElem?_eq_some_iff.1 hb
  exact List.pairwise_iff_getElem.1 h i (i + 1) h1 h2 (by omega)
end

theorem plan_iff {l : List Chg} : Plan l ↔ (∀ c ∈ l, GoodC c) ∧ Srt Chg.key l := by
  constructor
  · intro h
    refine ⟨fun c hc => ?_, srt_of_next fun i a b ha hb => ?_⟩
    · obtain ⟨k, hk⟩ := List.getElem?_of_mem hc
      exact (h k c hk).1
    · exact (h (i + 1) b hb).2 a (by omega) ha
  · intro h k c hc
    refine ⟨h.1 c (List.mem_of_getElem? hc), fun p hk hp => ?_⟩
    obtain ⟨j, rfl⟩ : ∃ j, k = j + 1 := ⟨k - 1, by omega⟩
    exact srt_next h.2 hp hc
end Go.Proofs.Ytfghkmhabpagkaa
