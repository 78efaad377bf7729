/- Arguments that are lists: what a reading of the row gives to the walk. -/
import Derived.Test.YtfghkmhabpagkaaWords
import Derived.ProofKit
import Derived.OpenShut
import Derived.Deep.Slices
import Derived.Deep.Fields
namespace Go.Proofs.Ytfghkmhabpagkaa
open Go Go.RowKit Go.ChangeShapes Go.WideShapes Go.ChangeAt Go.Deep

/-- What is known of a list of ints that came in. -/
structure IsInts (w : World) (A : Option Addr) (n c : Nat) (l : List Int) : Prop where
  reads : Reads w w.heap.size 1 A n (l.map (Value.int .i64))
  le : n ≤ c
  cap : c ≤ maxLen
  wf : ∀ v ∈ l, (Lit.int .i64 v).wf = true
theorem IsInts.len {w : World} {A : Option Addr} {n c : Nat} {l : List Int} (h : IsInts w A n c l) : l.length = n := by
  have := h.reads.1
  rw [List.length_map] at this
  omega

section
variable {H : Type} {enc : TypeId × Value → H} {P : Program} {w : World}
theorem open_list_ints {t e : TypeId} (ht : P.underlying t = some (.slice e)) (he : P.underlying e = some (.int .i64)) (hC : P.cellsOf e = 1) {a0 : Option Addr} {len0 cap0 : Nat} {d : DataW H} {p : List MemPlace}
    (h : DataW.Trod enc P w 0 (fun _ => true) true t (.slice a0 len0 cap0) d p) : ∃ l, IsInts w a0 len0 cap0 l := by
  obtain ⟨fuel, hf⟩ := h
  rcases open_ints ht he hC hf with ⟨hcs, _⟩ | ⟨x, l, c, zs, hcs, _, hl, hm, hz, _, hcell, hwz⟩
  · simp [Value.cells] at hcs
    obtain ⟨rfl, rfl, rfl⟩ := hcs
    exact ⟨[], Reads.none_, Nat.le_refl _, Nat.zero_le _, by simp⟩
  · simp [Value.cells] at hcs
    obtain ⟨rfl, rfl, rfl⟩ := hcs
    simp at hz
    refine ⟨zs.take len0, ⟨?_, fun hn => ⟨x, rfl, ?_, fun j u hu => ?_⟩⟩, hl, hm, fun v hv => hwz v (List.mem_of_mem_take hv)⟩
    · rw [List.length_map, List.length_take, hz, Nat.mul_one]
      omega
    · have := World.block_lt_of_cell? w _ (hcell 0 (by omega))
      rwa [block_of_add] at this
    · rw [List.getElem?_map, List.getElem?_take] at hu
      by_cases hj : j < len0
      · rw [if_pos hj, List.getElem?_eq_getElem (by omega)] at hu
        have hc := hcell j (by omega)
        rw [hc]
        simpa [List.getD, List.getElem?_eq_getElem (show j < zs.length by omega)] using hu
      · rw [if_neg hj] at hu
        cases hu
/-- How long the datum of a slice is. -/
theorem slice_size {t e : TypeId} (ht : P.underlying t = some (.slice e)) {a0 : Option Addr} {len0 cap0 : Nat} {d : DataW H} {p : List MemPlace}
    (h : DataW.Trod enc P w 0 (fun _ => true) true t (.slice a0 len0 cap0) d p) : (d = .nil ∧ len0 = 0) ∨ ∃ elems spare, d = .slice elems spare ∧ elems.length = len0 := by
  obtain ⟨fuel, hf⟩ := h
  rcases open_slice ht hf with ⟨hcs, hx⟩ | ⟨a, len, cap, m, n, D, Pl, hcs, _, _, _, _, hx, _⟩
  · simp [Value.cells] at hcs
    obtain ⟨rfl, rfl, rfl⟩ := hcs
    exact .inl ⟨(Prod.mk.inj hx).1, rfl⟩
  · simp [Value.cells] at hcs
    obtain ⟨rfl, rfl, rfl⟩ := hcs
    exact .inr ⟨_, _, (Prod.mk.inj hx).1, by simp⟩
end
end Go.Proofs.Ytfghkmhabpagkaa
