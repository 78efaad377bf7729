/- Arguments that are lists of pairs or of changes, and spans: what a reading of the row gives to the walk. (open_slice_fields: the kit's page of structs, copied as that page asks.) -/
import Derived.Test.YtfghkmhabpagkaaOpen
import Derived.Test.YtfghkmhabpagkaaData
import Derived.Test.YtfghkmhabpagkaaChecked
import Derived.WalkKit
import Derived.ChangeSame
import Derived.Lib.SmallJoins
namespace Go.Proofs.Ytfghkmhabpagkaa
open Go Go.RowKit Go.ChangeShapes Go.WideShapes Go.ChangeAt Go.Deep

section
variable {H : Type} {enc : TypeId × Value → H} {P : Program} {w : World} {base : Nat} {spare : Nat → Bool} {held : Bool}
theorem open_slice_fields {t e : TypeId} {fs : Array Field} {fuel : Nat} {cs : List Value} {x : DataW H × List MemPlace} (ht : P.underlying t = some (.slice e)) (he : P.underlying e = some (.struct fs))
    (hone : oneCellFields P fs = true) (hC : P.cellsOf e = fs.size) (h : DataW.trod enc P w base spare held fuel t cs = some x) :
    (cs = [.slice none 0 0] ∧ x = (.nil, [])) ∨
    ∃ (a : Addr) (len cap m : Nat) (D : Nat → DataW H) (Pl : Nat → List MemPlace), cs = [.slice (some a) len cap] ∧ base ≤ a.block ∧ len ≤ cap ∧ cap ≤ maxLen ∧ m = (if spare a.block then cap else len) ∧
      x = (.slice ((List.range len).map D) ((List.range (m - len)).map fun j => D (len + j)), MemPlace.row a (m * fs.size) ++ (List.range m).flatMap Pl) ∧
      ∀ i, i < m → ∃ (ys : List (DataW H × List MemPlace)) (n : Nat), D i = .agg (ys.map (·.1)) ∧ Pl i = ys.flatMap (·.2) ∧ ys.length = fs.size ∧
        ∀ (j : Nat) (f : Field), fs[j]? = some f → ∃ (v : Value) (y : DataW H × List MemPlace), w.cell? (a.add (i * fs.size + j)) = some v ∧ ys[j]? = some y ∧ DataW.trod enc P w base spare held n f.type [v] = some y := by
  rcases open_slice ht h with h0 | ⟨a, len, cap, m, n, D, Pl, hcs, hb, hl, hm, hmm, hx, hi⟩
  · exact .inl h0
  · refine .inr ⟨a, len, cap, m, D, Pl, hcs, hb, hl, hm, hmm, by rw [hC] at hx; exact hx, fun i him => ?_⟩
    obtain ⟨cs', hc, ht'⟩ := hi i him
    rw [hC] at hc
    obtain ⟨ys, n', hn', hy, hlen, hyl, hf⟩ := DataW.trod_struct he ht'
    obtain ⟨_, hcl, hat⟩ := World.cells?_some hc
    simp only [Prod.mk.injEq] at hy
    refine ⟨ys, n', hy.1, hy.2, hyl, fun j f hj => ?_⟩
    obtain ⟨ho, hk⟩ := hone_of hone j f hj
    have hjl : j < fs.size := (Array.getElem?_eq_some_iff.1 hj).1
    have hcell := hat j hjl
    have hv : cs'[j]? = some (cs'[j]'(by omega)) := List.getElem?_eq_getElem (by omega)
    have h1 := hf j f hj
    rw [ho, hk] at h1
    have hone' : (cs'.drop j).take 1 = [cs'[j]'(by omega)] := by
      rw [List.drop_eq_getElem_cons (by omega)]
      rfl
    rw [hone'] at h1
    have hys : ys[j]? = some (ys[j]'(by omega)) := List.getElem?_eq_getElem (by omega)
    refine ⟨_, _, ?_, hys, h1.trans hys⟩
    rw [← Go.Deep.add_add, hcell, hv]
end

theorem list_of {α : Type} {Q : Nat → α → Prop} : ∀ n : Nat, (∀ i, i < n → ∃ p, Q i p) → ∃ l : List α, l.length = n ∧ ∀ i p, l[i]? = some p → Q i p
  | 0, _ => ⟨[], rfl, fun i p h => by simp at h⟩
  | n + 1, h => by
    obtain ⟨l, hl, hq⟩ := list_of n fun i hi => h i (by omega)
    obtain ⟨p, hp⟩ := h n (by omega)
    refine ⟨l ++ [p], by simp [hl], fun i q hi => ?_⟩
    by_cases hlt : i < n
    · rw [List.getElem?_append_left (by omega)] at hi
      exact hq i q hi
    · rw [List.getElem?_append_right (by omega)] at hi
      have : i - l.length = 0 := by
        rcases Nat.eq_zero_or_pos (i - l.length) with h0 | h0
        · exact h0
        · rw [List.getElem?_eq_none (by simp; omega)] at hi; cases hi
      rw [this] at hi
      obtain rfl := Option.some.inj hi
      obtain rfl : i = n := by omega
      exact hp
/-- The cells of a list of structs, laid in a row. -/
theorem flat_cells {α : Type} (f : α → List Value) (s : Nat) (hs : ∀ a, (f a).length = s) (h0 : 0 < s) {l : List α} {w : World} {ad : Addr} (hc : ∀ i a, l[i]? = some a → ∀ j u, (f a)[j]? = some u → w.cell? (ad.add (i * s + j)) = some u) :
    ∀ j u, (l.flatMap f)[j]? = some u → w.cell? (ad.add j) = some u := by
  intro j u hu
  have hj : j < l.length * s := by
    have := (List.getElem?_eq_some_iff.1 hu).1
    rwa [flat_len f s hs] at this
  have hi : j / s < l.length := (Nat.div_lt_iff_lt_mul h0).2 hj
  have hg := flat_get f s hs l (j / s) l[j / s] (j % s) (List.getElem?_eq_getElem hi) (Nat.mod_lt _ h0)
  have he : j / s * s + j % s = j := Nat.div_add_mod' j s
  rw [he, hu] at hg
  have := hc (j / s) l[j / s] (List.getElem?_eq_getElem hi) (j % s) u hg.symm
  rwa [he] at this

/-- What is known of a list of pairs that came in. -/
structure IsPairs (w : World) (A : Option Addr) (n c : Nat) (l : List Pr) : Prop where
  reads : Reads w w.heap.size 2 A n (prs l)
  le : n ≤ c
  cap : c ≤ maxLen
  wf : ∀ p ∈ l, (Lit.int .u64 p.key).wf = true ∧ (Lit.int .u64 p.val).wf = true
/-- What is known of a list of changes that came in. -/
structure IsChanges (w : World) (A : Option Addr) (n c : Nat) (l : List Chg) : Prop where
  reads : Reads w w.heap.size 5 A n (chs l)
  le : n ≤ c
  cap : c ≤ maxLen
  wf : ∀ p ∈ l, (Lit.int .u64 p.key).wf = true ∧ (Lit.int .u64 p.old).wf = true ∧ (Lit.int .u64 p.new).wf = true

section
variable {H : Type} {enc : TypeId × Value → H} {w : World}
theorem open_pairs {t : TypeId} (ht : Try.prog.underlying t = some (.slice 38)) {a0 : Option Addr} {len0 cap0 : Nat} {d : DataW H} {p : List MemPlace}
    (h : DataW.Trod enc Try.prog w 0 (fun _ => true) true t (.slice a0 len0 cap0) d p) : ∃ l, IsPairs w a0 len0 cap0 l := by
  obtain ⟨fuel, hf⟩ := h
  rcases open_slice_fields ht Try.underlying38 (by kernel_rfl) (by kernel_rfl) hf with ⟨hcs, _⟩ | ⟨x, l, c, m, D, Pl, hcs, _, hl, hm, hmm, _, hi⟩
  · simp [Value.cells] at hcs
    obtain ⟨rfl, rfl, rfl⟩ := hcs
    exact ⟨[], Reads.none_, Nat.le_refl _, Nat.zero_le _, by simp⟩
  · simp [Value.cells] at hcs
    obtain ⟨rfl, rfl, rfl⟩ := hcs
    simp at hmm
    subst hmm
    obtain ⟨q, hq, hQ⟩ := list_of (Q := fun i (p : Pr) => (w.cell? (x.add (i * 2)) = some (.int .u64 p.key) ∧ w.cell? (x.add (i * 2 + 1)) = some (.int .u64 p.val)) ∧ (Lit.int .u64 p.key).wf = true ∧ (Lit.int .u64 p.val).wf = true) len0 fun i hil => by
      obtain ⟨ys, n, _, _, _, hfd⟩ := hi i (by omega)
      obtain ⟨v0, y0, k0, _, t0⟩ := hfd 0 _ rfl
      obtain ⟨v1, y1, k1, _, t1⟩ := hfd 1 _ rfl
      obtain ⟨n0, e0, _, f0⟩ := DataW.trod_int Try.underlying23 t0
      obtain ⟨n1, e1, _, f1⟩ := DataW.trod_int Try.underlying23 t1
      obtain rfl := List.singleton_inj.1 e0
      obtain rfl := List.singleton_inj.1 e1
      exact ⟨⟨n0, n1⟩, ⟨k0, k1⟩, f0, f1⟩
    refine ⟨q, ⟨by rw [prs_len, hq], fun hn => ⟨x, rfl, ?_, flat_cells prC 2 prC_len (by decide) fun i a ha j u hu => ?_⟩⟩, hl, hm, fun p hp => ?_⟩
    · have h0 := (hQ 0 q[0] (List.getElem?_eq_getElem (by omega))).1.1
      have := World.block_lt_of_cell? w _ h0
      rwa [block_of_add] at this
    · obtain ⟨⟨h0, h1⟩, _⟩ := hQ i a ha
      match j, hu with
      | 0, hu => obtain rfl := Option.some.inj hu; exact h0
      | 1, hu => obtain rfl := Option.some.inj hu; exact h1
      | j + 2, hu => simp [prC] at hu
    · obtain ⟨i, hip⟩ := List.getElem?_of_mem hp
      exact (hQ i p hip).2
end
end Go.Proofs.Ytfghkmhabpagkaa
