/- Maps keyed by small integers, at the level of the model: a look-up, a store. -/
import Derived.Test.YthkppihfdlmhgaaEv
import Derived.MapKept
namespace Go.Proofs.Ythkppihfdlmhgaa
open Go Go.RowKit
set_option linter.unusedVariables false

/-- Entries: key, value, when born. -/
def ents (q : IntKind) (kv : List (Int × Value × Nat)) : List MapEntry := kv.map fun p => { key := .int q p.1, val := p.2.1, born := p.2.2 }
/-- The first entry at a key. -/
def findL (k : Int) : List (Int × Value × Nat) → Nat → Option (Nat × Value)
  | [], _ => none
  | p :: l, i => if k = p.1 then some (i, p.2.1) else findL k l (i + 1)
theorem findNow_ents (q : IntKind) (k : Int) : ∀ (kv : List (Int × Value × Nat)) (i : Nat), Instr.findNow (.int q) (.int q k) (ents q kv) i = some (findL k kv i)
  | [], _ => rfl
  | p :: l, i => by
    have ih := findNow_ents q k l (i + 1)
    unfold ents at ih ⊢
    rw [List.map_cons, Instr.findNow]
    simp only [Instr.sameNow, if_true]
    by_cases h : k = p.1
    · simp [h, findL]
    · simp only [findL, if_neg h]
      rw [show (k == p.1) = false by simpa using h]
      exact ih
/-- Block g is a map of these entries. -/
def IsMapOf (w : World) (g : Nat) (q : IntKind) (kv : List (Int × Value × Nat)) (clk : Nat) : Prop := w.heap[g]? = some (.map (ents q kv).toArray clk)
theorem IsMapOf.below {w w' : World} {g : Nat} {q : IntKind} {kv : List (Int × Value × Nat)} {clk : Nat} (h : IsMapOf w g q kv clk) (hb : Below w.heap.size w w') : IsMapOf w' g q kv clk :=
  (hb.block g (Array.getElem?_eq_some_iff.1 h).1).trans h
section
variable {w : World} {g : Nat} {q : IntKind} {kv : List (Int × Value × Nat)} {clk : Nat} {T K E : TypeId}
theorem isKey_int (q : IntKind) (k : Int) : MapKept.IsKey (.int q) (.int q k) := rfl
theorem run_look (hT : Try.prog.underlying T = some (.map K E)) (hK : Try.prog.underlying K = some (.int q)) (h : IsMapOf w g q kv clk) (k : Int) (z : Value) (hz : (zeroValue E).run Try.prog w = .ok z w) (ok : Bool) :
    (Instr.lookup T (.map (some g)) (.int q k) ok).run Try.prog w = .ok (if ok then .tuple #[((findL k kv 0).map (·.2)).getD z, .bool (findL k kv 0).isSome] else ((findL k kv 0).map (·.2)).getD z) w := by
  have h1 := MapKept.run_getObj_map (P := Try.prog) h
  have h2 : ∀ b, (Instr.checkKey b 10000 K (.int q k)).run Try.prog w = .ok () w := fun b => MapKept.run_checkKey (w := w) hK (isKey_int q k) b 9999
  have h3 := MapKept.run_findKey (w := w) hK (findNow_ents q k kv 0)
  unfold Instr.lookup
  simp only [Sem.run_bind, run_underlying hT, Result.andThen, h1, Sem.run_pure, h2, h3]
  cases hf : findL k kv 0 with
  | none =>
    simp only [Sem.run_bind, Sem.run_pure, hz, Result.andThen]
    cases ok <;> rfl
  | some r =>
    simp only [Sem.run_bind, Sem.run_pure, Result.andThen]
    cases ok <;> rfl
theorem heap_put {o o' : Obj} (h : w.heap[g]? = some o) : w.grownBy { w with heap := w.heap.setIfInBounds g o' } (some g) ∧ ({ w with heap := w.heap.setIfInBounds g o' } : World).heap[g]? = some o' := by
  have hlt := (Array.getElem?_eq_some_iff.1 h).1
  refine ⟨⟨rfl, rfl, rfl, by simp, fun k hk hne => ?_⟩, by simp [hlt]⟩
  have : g ≠ k := fun e => hne (by rw [e])
  simp [this]
theorem run_put_new (hT : Try.prog.underlying T = some (.map K E)) (hK : Try.prog.underlying K = some (.int q)) (h : IsMapOf w g q kv clk) (k : Int) (v : Value) (hf : findL k kv 0 = none) :
    ∃ w', (Instr.mapUpdate T (.map (some g)) (.int q k) v).run Try.prog w = .ok () w' ∧ IsMapOf w' g q (kv ++ [(k, v, clk)]) (clk + 1) ∧ w.grownBy w' (some g) := by
  have h1 := MapKept.run_getObj_map (P := Try.prog) h
  have h2 := MapKept.run_checkKey (w := w) hK (isKey_int q k) false 9999
  have h3 := MapKept.run_findKey (w := w) hK (findNow_ents q k kv 0)
  have h4 := MapKept.run_setObj_map (P := Try.prog) (.map ((ents q kv).toArray.push { key := .int q k, val := v, born := clk }) (clk + 1)) h
  obtain ⟨hg, hp⟩ := heap_put (o' := .map ((ents q kv).toArray.push { key := .int q k, val := v, born := clk }) (clk + 1)) h
  refine ⟨_, ?_, ?_, hg⟩
  · unfold Instr.mapUpdate
    rw [hf] at h3
    simp only [Sem.run_bind, run_underlying hT, Result.andThen, h1, h2, h3, h4]
  · unfold IsMapOf
    rw [hp]
    simp [ents]
/-- The list with a new value at place i. -/
def setL (kv : List (Int × Value × Nat)) (i : Nat) (v : Value) : List (Int × Value × Nat) := kv.modify i fun p => (p.1, v, p.2.2)
theorem run_put_old (hT : Try.prog.underlying T = some (.map K E)) (hK : Try.prog.underlying K = some (.int q)) (h : IsMapOf w g q kv clk) (k : Int) (v u : Value) (i : Nat) (hf : findL k kv 0 = some (i, u)) (hi : ∃ p, kv[i]? = some p ∧ p.1 = k) :
    ∃ w', (Instr.mapUpdate T (.map (some g)) (.int q k) v).run Try.prog w = .ok () w' ∧ IsMapOf w' g q (setL kv i v) clk ∧ w.grownBy w' (some g) := by
  obtain ⟨p, hp, hpk⟩ := hi
  have h1 := MapKept.run_getObj_map (P := Try.prog) h
  have h2 := MapKept.run_checkKey (w := w) hK (isKey_int q k) false 9999
  have h3 := MapKept.run_findKey (w := w) hK (findNow_ents q k kv 0)
  have hek : (((ents q kv).toArray[i]?).map (·.key)).getD (.int q k) = .int q k := by
    rw [List.getElem?_toArray]
    unfold ents
    rw [List.getElem?_map, hp, ← hpk]
    rfl
  have h5 : (Instr.keyThatStays (.int q k) (.int q k)).run Try.prog w = .ok (.int q k) w := by
    unfold Instr.keyThatStays
    rw [if_pos (MapKept.sameBits_self (isKey_int q k) 10000)]
    rfl
  have h4 := MapKept.run_setObj_map (P := Try.prog) (.map ((ents q kv).toArray.modify i fun e => { e with key := .int q k, val := v }) clk) h
  obtain ⟨hg, hp2⟩ := heap_put (o' := .map ((ents q kv).toArray.modify i fun e => { e with key := .int q k, val := v }) clk) h
  refine ⟨_, ?_, ?_, hg⟩
  · unfold Instr.mapUpdate
    rw [hf] at h3
    simp only [Sem.run_bind, run_underlying hT, Result.andThen, h1, h2, h3, hek, h5, h4]
  · unfold IsMapOf
    rw [hp2]
    congr 2
    apply Array.toList_inj.1
    apply List.ext_getElem?
    intro j
    unfold ents setL
    simp only [Array.toList_modify, List.getElem?_modify, List.getElem?_map]
    by_cases hij : i = j
    · subst hij
      rw [hp]
      simp [hpk]
    · simp [hij]
end
end Go.Proofs.Ythkppihfdlmhgaa
