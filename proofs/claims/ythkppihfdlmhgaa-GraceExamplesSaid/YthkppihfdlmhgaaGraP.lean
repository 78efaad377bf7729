/- Sets of values, and what a wait has to wait for, in plain lists. -/
import Derived.Test.YthkppihfdlmhgaaApartP
import Derived.Test.YthkppihfdlmhgaaRes
namespace Go.Proofs.Ythkppihfdlmhgaa
open Go Go.RowKit
set_option linter.unusedVariables false

/-- A value is in a set. -/
def inS (set v : Int) : Bool := decide (v < 64) && decide (set / 2 ^ v.toNat % 2 = 1)
/-- The bit of a number is set. -/
def bitB (set : Int) (k : Nat) : Bool := decide (set / 2 ^ k % 2 = 1)
/-- The values of a set below n. -/
def memT (set : Int) (n : Nat) : List Nat := (List.range n).filter (bitB set)
/-- The values of a set. -/
def memS (set : Int) : List Nat := memT set 64
theorem memT_succ (set : Int) (n : Nat) : memT set (n + 1) = memT set n ++ (if bitB set n = true then [n] else []) := by
  unfold memT
  rw [List.range_succ, List.filter_append]
  congr 1
  cases h : bitB set n <;> simp [h]
theorem memT_len (set : Int) (n : Nat) : (memT set n).length ≤ n := by
  have := List.length_filter_le (bitB set) (List.range n)
  rw [List.length_range] at this
  exact this
theorem div_succ (set : Int) (k : Nat) : set / 2 ^ k / 2 = set / 2 ^ (k + 1) := by
  rw [Int.ediv_ediv_of_nonneg (Int.le_of_lt (Int.pow_pos (by decide))), ← Int.pow_succ]
/-- Where no bit is left nothing more comes. -/
theorem memT_zero {set : Int} {k : Nat} (h : set / 2 ^ k = 0) : ∀ d, memT set (k + d) = memT set k
  | 0 => rfl
  | d + 1 => by
    have hz : ∀ d : Nat, set / 2 ^ (k + d) = 0 := fun d => by
      induction d with
      | zero => exact h
      | succ d ih => rw [← Nat.add_assoc, ← div_succ, ih]; rfl
    rw [← Nat.add_assoc, memT_succ, memT_zero h d]
    unfold bitB
    rw [hz d]
    simp
theorem big_zero {set : Int} (h0 : 0 ≤ set) (h1 : set < 18446744073709551616) {k : Nat} (hk : 64 ≤ k) : set / 2 ^ k = 0 := by
  refine Int.ediv_eq_zero_of_lt h0 (Int.lt_of_lt_of_le h1 ?_)
  have h2 : (2 : Nat) ^ 64 ≤ 2 ^ k := Nat.pow_le_pow_right (by decide) hk
  have h3 : ((2 ^ 64 : Nat) : Int) ≤ ((2 ^ k : Nat) : Int) := Int.ofNat_le.2 h2
  rw [Int.natCast_pow, Int.natCast_pow] at h3
  exact h3
theorem mem_done {set : Int} (h0 : 0 ≤ set) (h1 : set < 18446744073709551616) {k : Nat} (hk : k ≤ 64) (h : set / 2 ^ k = 0) : memT set k = memS set := by
  have := memT_zero h (64 - k)
  rw [show k + (64 - k) = 64 by omega] at this
  exact this.symm
theorem mem_lt {set : Int} {n x : Nat} (h : x ∈ memT set n) : x < n := by
  unfold memT at h
  exact List.mem_range.1 (List.mem_filter.1 h).1
/-- A value is among the values of a set. -/
theorem in_mem {set v : Int} (h0 : 0 ≤ v) : (memS set).any (fun k => decide ((k : Int) = v)) = inS set v := by
  rw [Bool.eq_iff_iff, List.any_eq_true]
  unfold inS
  simp only [Bool.and_eq_true, decide_eq_true_eq]
  constructor
  · rintro ⟨k, hk, hv⟩
    have h1 := List.mem_filter.1 hk
    have h2 := List.mem_range.1 h1.1
    have h3 : bitB set k = true := h1.2
    unfold bitB at h3
    rw [decide_eq_true_eq] at h3
    subst hv
    exact ⟨by omega, by simpa using h3⟩
  · rintro ⟨h1, h2⟩
    refine ⟨v.toNat, List.mem_filter.2 ⟨List.mem_range.2 (by omega), ?_⟩, by omega⟩
    unfold bitB
    exact decide_eq_true h2
theorem in_zero {set v : Int} (h : ¬ v < 64) : inS set v = false := by
  unfold inS
  rw [decide_eq_false h]
  rfl
/-- A wait for a set that is invoked at a step has to wait for a section. -/
def dueB (step set : Int) (s : Sec) : Bool := (decide (s.enter < step) && (decide (s.exit < 0) || decide (step ≤ s.exit))) && inS set s.val

/-! ### The open sections and the waits of the threads -/
def opU (s : Int → Option (Int × Int)) (e : Ev) : Int → Option (Int × Int) := fun t =>
  if t = e.thread then (if e.kind = 1 then some (e.val, e.step) else if e.kind = 2 then none else s t) else s t
def waU (s : Int → Option (Int × Int)) (e : Ev) : Int → Option (Int × Int) := fun t =>
  if t = e.thread ∧ e.kind = 3 then some (e.val, e.step) else s t
def opS (l : List Ev) : Int → Option (Int × Int) := l.foldl opU fun _ => none
def waS (l : List Ev) : Int → Option (Int × Int) := l.foldl waU fun _ => none
theorem opS_snoc (l : List Ev) (e : Ev) : opS (l ++ [e]) = opU (opS l) e := by
  unfold opS
  rw [List.foldl_append]
  rfl
theorem waS_snoc (l : List Ev) (e : Ev) : waS (l ++ [e]) = waU (waS l) e := by
  unfold waS
  rw [List.foldl_append]
  rfl
theorem opS_take {l : List Ev} {k : Nat} {e : Ev} (he : l[k]? = some e) : opS (l.take (k + 1)) = opU (opS (l.take k)) e := by rw [take_snocE he, opS_snoc]
theorem waS_take {l : List Ev} {k : Nat} {e : Ev} (he : l[k]? = some e) : waS (l.take (k + 1)) = waU (waS (l.take k)) e := by rw [take_snocE he, waS_snoc]
theorem opS_mem {l : List Ev} {t : Int} (h : opS l t ≠ none) : ∃ e ∈ l, e.thread = t := by
  suffices g : ∀ (l : List Ev) (s : Int → Option (Int × Int)), l.foldl opU s t ≠ none → s t ≠ none ∨ ∃ e ∈ l, e.thread = t by
    rcases g l _ h with h | h
    · exact absurd rfl h
    · exact h
  intro l
  induction l with
  | nil => intro s h; exact .inl h
  | cons e l ih =>
    intro s h
    rcases ih _ h with h | ⟨x, hx, ht⟩
    · by_cases he : t = e.thread
      · exact .inr ⟨e, by simp, he.symm⟩
      · unfold opU at h
        rw [if_neg he] at h
        exact .inl h
    · exact .inr ⟨x, by simp [hx], ht⟩
/-- The step of a thread's wait (0: none). -/
def fromW (l : List Ev) (t : Int) : Int := ((waS l t).getD (0, 0)).2
/-- One open section holds an event back. -/
def lateB (l : List Ev) (x : Ev) (t : Int) : Bool := match opS l t with
  | some p => decide (p.2 < fromW l x.thread) && inS x.val p.1
  | none => false
/-- An event came too early. -/
def earB (l : List Ev) (k : Nat) (x : Ev) : Bool := decide (x.kind = 4) && (l.take k).any fun e => lateB (l.take k) x e.thread
theorem earB_not {l : List Ev} {k : Nat} {x : Ev} (h : x.kind ≠ 4) : earB l k x = false := by
  unfold earB
  rw [decide_eq_false h]
  rfl
theorem earB_one {l : List Ev} {k : Nat} {x : Ev} (h : x.kind = 4) {t : Int} (ht : lateB (l.take k) x t = true) : earB l k x = true := by
  have hn : opS (l.take k) t ≠ none := fun h => by
    unfold lateB at ht
    rw [h] at ht
    cases ht
  obtain ⟨e, he, rfl⟩ := opS_mem hn
  unfold earB
  rw [decide_eq_true h, Bool.true_and, List.any_eq_true]
  exact ⟨e, he, ht⟩
theorem earB_all {l : List Ev} {k : Nat} {x : Ev} (h : ∀ t, lateB (l.take k) x t = false) : earB l k x = false := by
  unfold earB
  rw [Bool.and_eq_false_iff]
  right
  rw [List.any_eq_false]
  intro e _
  rw [h]
  simp
/-- The first events all came late enough. -/
def LateTo (l : List Ev) (n : Nat) : Prop := ∀ j e, j < n → l[j]? = some e → earB l j e = false
theorem late_zero (l : List Ev) : LateTo l 0 := fun j e h => by omega
theorem late_step {l : List Ev} {k : Nat} {e : Ev} (h : LateTo l k) (he : l[k]? = some e) (hg : earB l k e = false) : LateTo l (k + 1) := fun j x hj hx => by
  by_cases hjk : j = k
  · subst hjk
    rw [he] at hx
    rw [← Option.some.inj hx]
    exact hg
  · exact h j x (by omega) hx
/-- What Check returns. -/
def GkIs (l : List Ev) (at_ er : Int) : Prop :=
  (errL l = 15 ∧ at_ = atL l ∧ er = 15) ∨ (FineTo l l.length ∧ ∃ (i : Nat) (e : Ev), l[i]? = some e ∧ LateTo l i ∧ earB l i e = true ∧ at_ = i ∧ er = 19) ∨ (FineTo l l.length ∧ LateTo l l.length ∧ at_ = 0 ∧ er = 0)
theorem errL_fine {l : List Ev} (h : FineTo l l.length) : errL l = 0 := if_pos h
theorem errL_bad {l : List Ev} (h : ¬ FineTo l l.length) : errL l = 15 := if_neg h
theorem fine_errL {l : List Ev} (h : errL l = 0) : FineTo l l.length := by
  by_cases hf : FineTo l l.length
  · exact hf
  · rw [errL_bad hf] at h
    cases h
theorem gk_one {l : List Ev} {a b c d : Int} (h : GkIs l a b) (h' : GkIs l c d) : a = c ∧ b = d := by
  rcases h with ⟨h1, rfl, rfl⟩ | ⟨hf, i, e, he, hl, hg, rfl, rfl⟩ | ⟨hf, hl, rfl, rfl⟩
  · rcases h' with ⟨_, rfl, rfl⟩ | ⟨hf', _⟩ | ⟨hf', _⟩
    · exact ⟨rfl, rfl⟩
    · rw [errL_fine hf'] at h1; cases h1
    · rw [errL_fine hf'] at h1; cases h1
  · rcases h' with ⟨h1, _⟩ | ⟨_, j, x, hx, hl', hg', rfl, rfl⟩ | ⟨_, hl', rfl, rfl⟩
    · rw [errL_fine hf] at h1; cases h1
    · rcases Nat.lt_trichotomy i j with h1 | rfl | h1
      · rw [hl' i e h1 he] at hg; cases hg
      · exact ⟨rfl, rfl⟩
      · rw [hl j x h1 hx] at hg'; cases hg'
    · rw [hl' i e (List.getElem?_eq_some_iff.1 he).1 he] at hg; cases hg
  · rcases h' with ⟨h1, _⟩ | ⟨_, j, x, hx, hl', hg', rfl, rfl⟩ | ⟨_, hl', rfl, rfl⟩
    · rw [errL_fine hf] at h1; cases h1
    · rw [hl j x (List.getElem?_eq_some_iff.1 hx).1 hx] at hg'; cases hg'
    · exact ⟨rfl, rfl⟩
theorem gk_some (l : List Ev) : ∃ a er, GkIs l a er := by
  by_cases hf : FineTo l l.length
  · suffices h : ∀ n, n ≤ l.length → (LateTo l n ∨ ∃ a er, GkIs l a er) by
      rcases h l.length (Nat.le_refl _) with h | h
      · exact ⟨0, 0, .inr (.inr ⟨hf, h, rfl, rfl⟩)⟩
      · exact h
    intro n
    induction n with
    | zero => intro _; exact .inl (late_zero l)
    | succ n ih =>
      intro hn
      rcases ih (by omega) with h | h
      · have he : l[n]? = some l[n] := List.getElem?_eq_getElem (by omega)
        cases hg : earB l n l[n] with
        | false => exact .inl (late_step h he hg)
        | true => exact .inr ⟨n, 19, .inr (.inl ⟨hf, n, _, he, h, hg, rfl, rfl⟩)⟩
      · exact .inr h
  · exact ⟨_, _, .inl ⟨errL_bad hf, rfl, rfl⟩⟩
noncomputable def gAt (l : List Ev) : Int := Classical.choose (gk_some l)
noncomputable def gEr (l : List Ev) : Int := Classical.choose (Classical.choose_spec (gk_some l))
theorem gk_at (l : List Ev) : GkIs l (gAt l) (gEr l) := Classical.choose_spec (Classical.choose_spec (gk_some l))
open Classical in
/-- What Over returns. -/
noncomputable def ovEr (l : List Ev) (t s : Int) : Int := if FineTo l l.length then (if t < 0 then 3 else if s = 0 then 2 else 0) else 15
open Classical in
noncomputable def ovL (l : List Ev) (t s : Int) : List Sec := if FineTo l l.length ∧ ¬ t < 0 ∧ s ≠ 0 then (secsK 1 l).filter (dueB t s) else []
open Classical in
/-- What Must returns. -/
noncomputable def muEr (l : List Ev) (k : Int) : Int := if FineTo l l.length then (if 0 ≤ k ∧ k < (secsK 3 l).length then 0 else 3) else 15
open Classical in
noncomputable def muL (l : List Ev) (k : Int) : List Sec := if FineTo l l.length ∧ 0 ≤ k then (match (secsK 3 l)[k.toNat]? with
  | some w => (secsK 1 l).filter (dueB w.enter w.val)
  | none => []) else []
/-- The least step at which a wait may end, over the sections that it waits for. -/
def sucI (x : Int) : Int := if x = 9223372036854775807 then x else x + 1
def leaF (a : Int) (s : Sec) : Int := if a < 0 then a else if s.exit < 0 then -1 else max a (sucI s.exit)
def leaW (L : List Sec) (w : Sec) : Int := (L.filter (dueB w.enter w.val)).foldl leaF w.enter
open Classical in
noncomputable def leaL (l : List Ev) : List Int := if FineTo l l.length then (secsK 3 l).map (leaW (secsK 1 l)) else []
end Go.Proofs.Ythkppihfdlmhgaa
