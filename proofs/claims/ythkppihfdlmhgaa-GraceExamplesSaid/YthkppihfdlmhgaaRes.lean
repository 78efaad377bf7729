/- All functions of the chapter in one form: what they return as functions of the list. -/
import Derived.Test.YthkppihfdlmhgaaPairs
import Derived.Test.YthkppihfdlmhgaaLook
import Derived.Test.YthkppihfdlmhgaaKit
namespace Go.Proofs.Ythkppihfdlmhgaa
open Go Go.RowKit
set_option linter.unusedVariables false

open Classical in
noncomputable def errL (l : List Ev) : Int := if FineTo l l.length then 0 else 15
open Classical in
noncomputable def secL (q : Int) (l : List Ev) : List Sec := if FineTo l l.length then secsK q l else []
theorem ck_some (l : List Ev) : ∃ a er, CkIs l a er := by
  suffices h : ∀ n, n ≤ l.length → (FineTo l n ∨ ∃ a er, CkIs l a er) by
    rcases h l.length (Nat.le_refl _) with h | h
    · exact ⟨0, 0, .inr ⟨h, rfl, rfl⟩⟩
    · exact h
  intro n
  induction n with
  | zero => intro _; exact .inl (fineTo_zero l)
  | succ n ih =>
    intro hn
    rcases ih (by omega) with h | h
    · have he : l[n]? = some l[n] := List.getElem?_eq_getElem (by omega)
      cases hg : goodE l n l[n] with
      | true => exact .inl (fineTo_step h he hg)
      | false => exact .inr ⟨n, 15, ckIs_bad h he hg⟩
    · exact .inr h
noncomputable def atL (l : List Ev) : Int := Classical.choose (ck_some l)
theorem ck_at (l : List Ev) : CkIs l (atL l) (errL l) := by
  obtain ⟨er, h⟩ := Classical.choose_spec (ck_some l)
  have he : errL l = er := by
    unfold errL
    rcases ckIs_cases h with ⟨rfl, hb⟩ | ⟨rfl, hf⟩
    · rw [if_neg hb]
    · rw [if_pos hf]
  rw [he]
  exact h
/-- Check's answer. -/
def CkRes (a er : Int) (w : World) (e : Ending) (w' : World) : Prop := e = .returned (.tuple #[.int .i64 a, .int .i64 er]) ∧ Below w.heap.size w w'
/-- A list of sections or waits and an error. -/
def SecRes (T : TypeId) (L : List Sec) (er : Int) (w : World) (e : Ending) (w' : World) : Prop :=
  ∃ A n c, e = .returned (.tuple #[.slice A n c, .int .i64 er]) ∧ n = L.length ∧ w'.ownsRow w.heap.size T 4 (.slice A n c) n (secs L) ∧ Below w.heap.size w w'
def EvRes (L : List Ev) (er : Int) (w : World) (e : Ending) (w' : World) : Prop :=
  ∃ A n c, e = .returned (.tuple #[.slice A n c, .int .i64 er]) ∧ n = L.length ∧ w'.ownsRow w.heap.size 37 4 (.slice A n c) n (evs L) ∧ Below w.heap.size w w'
def EvOne (L : List Ev) (w : World) (e : Ending) (w' : World) : Prop :=
  ∃ A n c, e = .returned (.slice A n c) ∧ n = L.length ∧ w'.ownsRow w.heap.size 37 4 (.slice A n c) n (evs L) ∧ Below w.heap.size w w'
open Classical in
noncomputable def lookEr (l : List Ev) (t : Int) : Int := if FineTo l l.length then (if t < -1 then 3 else 0) else 15
open Classical in
noncomputable def opnL (l : List Ev) (t : Int) : List Sec := if FineTo l l.length ∧ ¬ t < -1 then (secsK 1 l).filterMap (openS t) else []
open Classical in
noncomputable def preL (l : List Ev) (t : Int) : List Ev := if FineTo l l.length ∧ ¬ t < -1 then l.filter (fun e => decide (e.step ≤ t)) else []
def ofL (l : List Ev) (t : Int) : List Ev := l.filter fun e => decide (e.thread = t)
open Classical in
theorem ck_res {l : List Ev} {w : World} {e : Ending} {w' : World} (h : CkEnd l w e w') : CkRes (atL l) (errL l) w e w' := by
  obtain ⟨a, er, rfl, hc, hb⟩ := h
  obtain ⟨rfl, rfl⟩ := ckIs_one hc (ck_at l)
  exact ⟨rfl, hb⟩
theorem sec_res {T : TypeId} {q : Int} {l : List Ev} {w : World} {e : Ending} {w' : World} (h : SecEnd T q l w e w') : SecRes T (secL q l) (errL l) w e w' := by
  unfold secL errL
  rcases h with ⟨v, hf, rfl, ho, hb⟩ | ⟨hf, rfl, hb⟩
  · rw [if_pos hf, if_pos hf]
    obtain ⟨A, c, rfl, _⟩ := own_form ho
    exact ⟨A, _, c, rfl, rfl, ho, hb⟩
  · rw [if_neg hf, if_neg hf]
    exact ⟨none, 0, 0, rfl, rfl, World.ownsRow_nil _ _ _ _, hb⟩
theorem opn_res {l : List Ev} {t : Int} {w : World} {e : Ending} {w' : World} (h : LookEnd 43 (secs ((secsK 1 l).filterMap (openS t))) ((secsK 1 l).filterMap (openS t)).length l t w e w') : SecRes 43 (opnL l t) (lookEr l t) w e w' := by
  unfold opnL lookEr
  rcases h with ⟨hf, rfl, hb⟩ | ⟨hf, ht, rfl, hb⟩ | ⟨v, hf, ht, rfl, ho, hb⟩
  · rw [if_neg (fun h => hf h.1), if_neg hf]
    exact ⟨none, 0, 0, rfl, rfl, World.ownsRow_nil _ _ _ _, hb⟩
  · rw [if_neg (fun h => h.2 ht), if_pos hf, if_pos ht]
    exact ⟨none, 0, 0, rfl, rfl, World.ownsRow_nil _ _ _ _, hb⟩
  · rw [if_pos ⟨hf, ht⟩, if_pos hf, if_neg ht]
    obtain ⟨A, c, rfl, _⟩ := own_form ho
    exact ⟨A, _, c, rfl, rfl, ho, hb⟩
theorem pre_res {l : List Ev} {t : Int} {w : World} {e : Ending} {w' : World} (h : LookEnd 37 (evs (l.filter fun e => decide (e.step ≤ t))) (l.filter fun e => decide (e.step ≤ t)).length l t w e w') : EvRes (preL l t) (lookEr l t) w e w' := by
  unfold preL lookEr
  rcases h with ⟨hf, rfl, hb⟩ | ⟨hf, ht, rfl, hb⟩ | ⟨v, hf, ht, rfl, ho, hb⟩
  · rw [if_neg (fun h => hf h.1), if_neg hf]
    exact ⟨none, 0, 0, rfl, rfl, World.ownsRow_nil _ _ _ _, hb⟩
  · rw [if_neg (fun h => h.2 ht), if_pos hf, if_pos ht]
    exact ⟨none, 0, 0, rfl, rfl, World.ownsRow_nil _ _ _ _, hb⟩
  · rw [if_pos ⟨hf, ht⟩, if_pos hf, if_neg ht]
    obtain ⟨A, c, rfl, _⟩ := own_form ho
    exact ⟨A, _, c, rfl, rfl, ho, hb⟩
theorem of_res {L : List Ev} {w : World} {e : Ending} {w' : World} (h : EvsEnd L w e w') : EvOne L w e w' := by
  obtain ⟨v, rfl, ho, hb⟩ := h
  obtain ⟨A, c, rfl, _⟩ := own_form ho
  exact ⟨A, _, c, rfl, rfl, ho, hb⟩
theorem copy_res {L : List Ev} {w : World} {e : Ending} {w' : World} (h : CopyEnd L L.length w e w') : EvOne L w e w' := by
  obtain ⟨A, c, rfl, ho, hb⟩ := h
  exact ⟨A, _, c, rfl, rfl, ho, hb⟩
section
variable (l : List Ev) (A : Option Addr) (n c : Nat) (w : World) (hr : Hid (Reads w w.heap.size 4 A n (evs l))) (hn : n ≤ 65536)
include hr hn
theorem check_at : Calls Try.prog 31 #[.slice A n c] w (CkRes (atL l) (errL l) w) := (check_any l A n c w hr hn).mono fun _ _ h => ck_res h
theorem rcheck_at : Calls Try.prog 37 #[.slice A n c] w (CkRes (atL l) (errL l) w) := (rcheck_any l A n c w hr hn).mono fun _ _ h => ck_res h
theorem sections_at : Calls Try.prog 17 #[.slice A n c] w (SecRes 43 (secL 1 l) (errL l) w) := (sections_any l A n c w hr hn).mono fun _ _ h => sec_res h
theorem rsections_at : Calls Try.prog 23 #[.slice A n c] w (SecRes 43 (secL 1 l) (errL l) w) := (rsections_any l A n c w hr hn).mono fun _ _ h => sec_res h
theorem waits_at : Calls Try.prog 45 #[.slice A n c] w (SecRes 74 (secL 3 l) (errL l) w) := (waits_any l A n c w hr hn).mono fun _ _ h => sec_res h
theorem rwaits_at : Calls Try.prog 41 #[.slice A n c] w (SecRes 74 (secL 3 l) (errL l) w) := (rwaits_any l A n c w hr hn).mono fun _ _ h => sec_res h
theorem prefix_at (t : Int) : Calls Try.prog 19 #[.int .i64 t, .slice A n c] w (EvRes (preL l t) (lookEr l t) w) := (prefix_any l A n c t w hr hn).mono fun _ _ h => pre_res h
end
theorem few_at (l : List Ev) (A : Option Addr) (n c : Nat) (w : World) (hr : Hid (Reads w w.heap.size 4 A n (evs l))) (hnc : n ≤ c) (hc : c ≤ 9223372036854775807) :
    Calls Try.prog 8 #[.slice A n c] w (EvOne (l.take 80) w) := (few_any l A n c w hr hnc hc).mono fun _ _ h => copy_res h
/-- Decided for a given list. -/
def fineB (l : List Ev) : Nat → Bool
  | 0 => true
  | n + 1 => fineB l n && (match l[n]? with | some e => goodE l n e | none => true)
theorem fineB_to {l : List Ev} : ∀ {n : Nat}, fineB l n = true → FineTo l n
  | 0, _ => fineTo_zero l
  | n + 1, h => by
    unfold fineB at h
    simp only [Bool.and_eq_true] at h
    intro j e hj he
    by_cases hjn : j = n
    · subst hjn
      have := h.2
      rw [he] at this
      exact this
    · exact fineB_to h.1 j e (by omega) he
theorem at_bad {l : List Ev} {k : Nat} {e : Ev} (h : fineB l k = true) (he : l[k]? = some e) (hg : goodE l k e = false) : atL l = k ∧ errL l = 15 :=
  ckIs_one (ck_at l) (ckIs_bad (fineB_to h) he hg)
theorem at_fine {l : List Ev} (h : FineTo l l.length) : atL l = 0 ∧ errL l = 0 := ckIs_one (ck_at l) (.inr ⟨h, rfl, rfl⟩)
theorem secL_fine {l : List Ev} (h : FineTo l l.length) (q : Int) : secL q l = secsK q l := if_pos h
theorem opnL_fine {l : List Ev} (h : FineTo l l.length) {t : Int} (ht : ¬ t < -1) : opnL l t = (secsK 1 l).filterMap (openS t) := if_pos ⟨h, ht⟩
theorem preL_fine {l : List Ev} (h : FineTo l l.length) {t : Int} (ht : ¬ t < -1) : preL l t = l.filter (fun e => decide (e.step ≤ t)) := if_pos ⟨h, ht⟩
theorem lookEr_fine {l : List Ev} (h : FineTo l l.length) {t : Int} (ht : ¬ t < -1) : lookEr l t = 0 := by unfold lookEr; rw [if_pos h, if_neg ht]
end Go.Proofs.Ythkppihfdlmhgaa
