/- Closed lists, by reckoning: ascending or not, a plan or not. -/
import Derived.Test.YtlaocajjenfgpaaChainM
import Derived.Test.YtlaocajjenfgpaaLawApp
namespace Go.Proofs.Ytlaocajjenfgpaa
open Go

def srtB (l : List Int) : Bool := match l with
  | a :: b :: l => decide (a < b) && srtB (b :: l)
  | _ => true
theorem srtB_yes {α : Type} {key : α → Int} : ∀ {l : List α}, srtB (l.map key) = true → Srt key l
  | [], _ => srt_nil
  | [a], _ => List.pairwise_singleton _ a
  | a :: b :: l, h => by
    have h' : (decide (key a < key b) && srtB ((b :: l).map key)) = true := h
    rw [Bool.and_eq_true] at h'
    have ih := srtB_yes (l := b :: l) h'.2
    have hab : key a < key b := of_decide_eq_true h'.1
    refine srt_cons.2 ⟨fun c hc => ?_, ih⟩
    rcases List.mem_cons.1 hc with rfl | hm
    · exact hab
    · have := (srt_cons.1 ih).1 c hm
      omega
theorem srtB_no {α : Type} {key : α → Int} : ∀ {l : List α}, srtB (l.map key) = false → ¬ Srt key l
  | [], h => by cases h
  | [a], h => by cases h
  | a :: b :: l, h => by
    have h' : (decide (key a < key b) && srtB ((b :: l).map key)) = false := h
    intro hs
    rw [Bool.and_eq_false_iff] at h'
    rcases h' with h' | h'
    · have := (srt_cons.1 hs).1 b (List.mem_cons_self ..)
      exact of_decide_eq_false h' this
    · exact srtB_no (l := b :: l) h' (srt_cons.1 hs).2
def goodB (c : Chg) : Bool := (c.was || c.is) && ((c.was || c.old == 0) && (c.is || c.new == 0))
theorem goodB_iff (c : Chg) : goodB c = true ↔ GoodC c := by
  unfold goodB GoodC
  simp only [Bool.and_eq_true, Bool.or_eq_true, beq_iff_eq]
def planB (l : List Chg) : Bool := l.all goodB && srtB (l.map Chg.key)
theorem planB_yes {l : List Chg} (h : planB l = true) : Plan l := by
  unfold planB at h
  rw [Bool.and_eq_true, List.all_eq_true] at h
  exact plan_iff.2 ⟨fun c hc => (goodB_iff c).1 (h.1 c hc), srtB_yes h.2⟩
theorem planB_no {l : List Chg} (h : planB l = false) : ¬ Plan l := by
  intro hp
  obtain ⟨h1, h2⟩ := plan_iff.1 hp
  have : planB l = true := by
    unfold planB
    rw [Bool.and_eq_true, List.all_eq_true]
    refine ⟨fun c hc => (goodB_iff c).2 (h1 c hc), ?_⟩
    rcases hs : srtB (l.map Chg.key) with _ | _
    · exact absurd h2 (srtB_no hs)
    · rfl
  rw [h] at this
  cases this
end Go.Proofs.Ytlaocajjenfgpaa
