/- Pairs and changes as plain data, and their cells. -/
import Derived.Test.YtfghkmhabpagkaaWords
namespace Go.Proofs.Ytfghkmhabpagkaa
open Go Go.RowKit

/-- A pair of a key and its value. -/
structure Pr where
  key : Int
  val : Int
/-- A change of a key. -/
structure Chg where
  key : Int
  was : Bool
  old : Int
  is : Bool
  new : Int
theorem Pr.ext_ {a b : Pr} (h1 : a.key = b.key) (h2 : a.val = b.val) : a = b := by
  cases a; cases b; simp_all
theorem Chg.ext_ {a b : Chg} (h1 : a.key = b.key) (h2 : a.was = b.was) (h3 : a.old = b.old) (h4 : a.is = b.is) (h5 : a.new = b.new) : a = b := by
  cases a; cases b; simp_all

def prC (p : Pr) : List Value := [.int .u64 p.key, .int .u64 p.val]
def chC (c : Chg) : List Value := [.int .u64 c.key, .bool c.was, .int .u64 c.old, .bool c.is, .int .u64 c.new]
def prs (l : List Pr) : List Value := l.flatMap prC
def chs (l : List Chg) : List Value := l.flatMap chC
def prV (p : Pr) : Value := .agg #[.int .u64 p.key, .int .u64 p.val]
def chV (c : Chg) : Value := .agg #[.int .u64 c.key, .bool c.was, .int .u64 c.old, .bool c.is, .int .u64 c.new]

theorem flat_len {α : Type} (f : α → List Value) (s : Nat) (h : ∀ a, (f a).length = s) : ∀ l : List α, (l.flatMap f).length = l.length * s
  | [] => by simp
  | a :: l => by rw [List.flatMap_cons, List.length_append, h, flat_len f s h l, List.length_cons, Nat.add_mul, Nat.one_mul, Nat.add_comm]
theorem flat_get {α : Type} (f : α → List Value) (s : Nat) (h : ∀ a, (f a).length = s) : ∀ (l : List α) (k : Nat) (a : α) (j : Nat), l[k]? = some a → j < s → (l.flatMap f)[k * s + j]? = (f a)[j]?
  | [], k, a, j, hk, _ => by simp at hk
  | b :: l, 0, a, j, hk, hj => by
    obtain rfl : b = a := by simpa using hk
    rw [List.flatMap_cons, Nat.zero_mul, Nat.zero_add, List.getElem?_append_left (by rw [h]; exact hj)]
  | b :: l, k + 1, a, j, hk, hj => by
    rw [List.flatMap_cons, List.getElem?_append_right (by rw [h, Nat.add_mul]; omega), h, show (k + 1) * s + j - s = k * s + j by rw [Nat.add_mul]; omega]
    exact flat_get f s h l k a j (by simpa using hk) hj
theorem flat_take {α : Type} (f : α → List Value) (s : Nat) (h : ∀ a, (f a).length = s) : ∀ (l : List α) (k : Nat), (l.flatMap f).take (k * s) = (l.take k).flatMap f
  | [], k => by simp
  | a :: l, 0 => by simp
  | a :: l, k + 1 => by
    rw [List.take_succ_cons, List.flatMap_cons, List.flatMap_cons, List.take_append, List.take_of_length_le (by rw [h, Nat.add_mul]; omega), h, show (k + 1) * s - s = k * s by rw [Nat.add_mul]; omega, flat_take f s h l k]
theorem flat_drop {α : Type} (f : α → List Value) (s : Nat) (h : ∀ a, (f a).length = s) : ∀ (l : List α) (k : Nat), (l.flatMap f).drop (k * s) = (l.drop k).flatMap f
  | [], k => by simp
  | a :: l, 0 => by simp
  | a :: l, k + 1 => by
    rw [List.drop_succ_cons, List.flatMap_cons, List.drop_append, List.drop_of_length_le (by rw [h, Nat.add_mul]; omega), h, show (k + 1) * s - s = k * s by rw [Nat.add_mul]; omega, List.nil_append, flat_drop f s h l k]

theorem prC_len (p : Pr) : (prC p).length = 2 := rfl
theorem chC_len (c : Chg) : (chC c).length = 5 := rfl
theorem prs_len (l : List Pr) : (prs l).length = l.length * 2 := flat_len prC 2 prC_len l
theorem chs_len (l : List Chg) : (chs l).length = l.length * 5 := flat_len chC 5 chC_len l
theorem prs_append (a b : List Pr) : prs (a ++ b) = prs a ++ prs b := by simp [prs]
theorem chs_append (a b : List Chg) : chs (a ++ b) = chs a ++ chs b := by simp [chs]
theorem prs_one (l : List Pr) : ∀ u ∈ prs l, u.oneCell' = true := by
  intro u hu
  obtain ⟨p, _, hp⟩ := List.mem_flatMap.1 hu
  simp only [prC, List.mem_cons, List.not_mem_nil, or_false] at hp
  rcases hp with rfl | rfl <;> rfl
theorem chs_one (l : List Chg) : ∀ u ∈ chs l, u.oneCell' = true := by
  intro u hu
  obtain ⟨p, _, hp⟩ := List.mem_flatMap.1 hu
  simp only [chC, List.mem_cons, List.not_mem_nil, or_false] at hp
  rcases hp with rfl | rfl | rfl | rfl | rfl <;> rfl

section
variable {w : World} {B n : Nat} {A : Option Addr}
/-- The head of a slice that reads as a list is a place of the heap. -/
theorem reads_head {size : Nat} {xs : List Value} (h : Reads w B size A n xs) (hn : 0 < n) (hs : 0 < size) : ∃ b o, A = some ⟨b, o, none⟩ ∧ b < B := by
  obtain ⟨ad, e, hb, hc⟩ := h.2 hn
  have hl : 0 < xs.length := by rw [h.1]; exact Nat.mul_pos hn hs
  have h0 := hc 0 _ (List.getElem?_eq_getElem hl)
  obtain ⟨b, o, sp⟩ := ad
  have : sp = none := by simpa [Addr.add] using World.cell?_spot h0
  subst this
  exact ⟨b, o, e, hb⟩
/-- The element k of a list of pairs, and its cells. -/
theorem prs_at {b o : Nat} {l : List Pr} {k : Nat} (h : Reads w B 2 (some ⟨b, o, none⟩) n (prs l)) (hk : k < n) : ∃ p : Pr, l[k]? = some p ∧
    w.cell? ⟨b, o + k * 2, none⟩ = some (.int .u64 p.key) ∧ w.cell? ⟨b, o + k * 2 + 1, none⟩ = some (.int .u64 p.val) := by
  obtain ⟨ad, e, _, hc⟩ := h.2 (by omega)
  obtain rfl := Option.some.inj e
  have hl : k < l.length := by have := h.1; rw [prs_len] at this; omega
  have hg : l[k]? = some l[k] := List.getElem?_eq_getElem hl
  have g := fun j hj => flat_get prC 2 prC_len l k l[k] j hg hj
  have c := fun j u hu => hc j u hu
  simp only [Addr.add_lit] at c
  exact ⟨l[k], hg, c _ _ (g 0 (by omega)), c _ _ (g 1 (by omega))⟩
/-- The element k of a list of changes, and its cells. -/
theorem chs_at {b o : Nat} {l : List Chg} {k : Nat} (h : Reads w B 5 (some ⟨b, o, none⟩) n (chs l)) (hk : k < n) : ∃ c : Chg, l[k]? = some c ∧
    w.cell? ⟨b, o + k * 5, none⟩ = some (.int .u64 c.key) ∧ w.cell? ⟨b, o + k * 5 + 1, none⟩ = some (.bool c.was) ∧ w.cell? ⟨b, o + k * 5 + 2, none⟩ = some (.int .u64 c.old) ∧
    w.cell? ⟨b, o + k * 5 + 3, none⟩ = some (.bool c.is) ∧ w.cell? ⟨b, o + k * 5 + 4, none⟩ = some (.int .u64 c.new) := by
  obtain ⟨ad, e, _, hc⟩ := h.2 (by omega)
  obtain rfl := Option.some.inj e
  have hl : k < l.length := by have := h.1; rw [chs_len] at this; omega
  have hg : l[k]? = some l[k] := List.getElem?_eq_getElem hl
  have g := fun j hj => flat_get chC 5 chC_len l k l[k] j hg hj
  have c := fun j u hu => hc j u hu
  simp only [Addr.add_lit] at c
  exact ⟨l[k], hg, c _ _ (g 0 (by omega)), c _ _ (g 1 (by omega)), c _ _ (g 2 (by omega)), c _ _ (g 3 (by omega)), c _ _ (g 4 (by omega))⟩
theorem prs_n {l : List Pr} (h : Reads w B 2 A n (prs l)) : l.length = n := by have := h.1; rw [prs_len] at this; omega
theorem chs_n {l : List Chg} (h : Reads w B 5 A n (chs l)) : l.length = n := by have := h.1; rw [chs_len] at this; omega
end
end Go.Proofs.Ytfghkmhabpagkaa
