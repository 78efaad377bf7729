/- Maps keyed by small integers: a store, a delete, a range over the entries, whichever comes first. -/
import Derived.Test.YthkppihfdlmhgaaPairsQ
import Derived.Maps.RangeRun
namespace Go.Proofs.Ythkppihfdlmhgaa
open Go Go.RowKit
open Go.ChangeMaps (setBlock)
set_option linter.unusedVariables false

/-- What a map holds; no key and no birth number comes twice. -/
structure MapAs (kv : List (Int × Value × Nat)) (clk : Nat) (s : Int → Option Value) : Prop where
  look : ∀ t, (findL t kv 0).map (·.2) = s t
  keys : (kv.map (·.1)).Nodup
  old : ∀ p ∈ kv, p.2.2 < clk
  born : (kv.map (·.2.2)).Nodup
theorem mapAs_nil (clk : Nat) : MapAs [] clk fun _ => none := ⟨fun t => rfl, List.nodup_nil, (fun p h => by simp at h), List.nodup_nil⟩
theorem findL_cons (k : Int) (p : Int × Value × Nat) (l : List (Int × Value × Nat)) (i : Nat) : findL k (p :: l) i = if k = p.1 then some (i, p.2.1) else findL k l (i + 1) := rfl
theorem findL_not {k : Int} : ∀ {kv : List (Int × Value × Nat)} {i : Nat}, findL k kv i = none → ∀ p ∈ kv, p.1 ≠ k
  | [], i, _ => fun p h => by cases h
  | p :: kv, i, h => by
    unfold findL at h
    split at h
    · cases h
    · rename_i hk
      intro x hx
      rcases List.mem_cons.1 hx with rfl | hx
      · exact fun h => hk h.symm
      · exact findL_not h x hx
theorem findL_in {k : Int} : ∀ {kv : List (Int × Value × Nat)} {i j : Nat} {u : Value}, findL k kv i = some (j, u) → i ≤ j ∧ ∃ b, kv[j - i]? = some (k, u, b)
  | [], i, j, u, h => by cases h
  | p :: kv, i, j, u, h => by
    unfold findL at h
    split at h
    · rename_i hk
      obtain ⟨rfl, rfl⟩ := Prod.mk.inj (Option.some.inj h)
      refine ⟨Nat.le_refl _, p.2.2, ?_⟩
      rw [Nat.sub_self, hk]
      rfl
    · obtain ⟨h1, b, h2⟩ := findL_in h
      refine ⟨by omega, b, ?_⟩
      rw [show j - i = (j - (i + 1)) + 1 by omega, List.getElem?_cons_succ]
      exact h2
theorem findL_mem : ∀ {kv : List (Int × Value × Nat)} (i : Nat) {p : Int × Value × Nat}, (kv.map (·.1)).Nodup → p ∈ kv → (findL p.1 kv i).map (·.2) = some p.2.1
  | x :: kv, i, p, hn, hp => by
    rw [List.map_cons, List.nodup_cons] at hn
    rcases List.mem_cons.1 hp with rfl | hp
    · unfold findL
      rw [if_pos rfl]
      rfl
    · unfold findL
      rw [if_neg (fun h => hn.1 (by rw [← h]; exact List.mem_map.2 ⟨p, hp, rfl⟩))]
      exact findL_mem (i + 1) hn.2 hp
theorem setL_keys (kv : List (Int × Value × Nat)) (i : Nat) (v : Value) : (setL kv i v).map (·.1) = kv.map (·.1) ∧ (setL kv i v).map (·.2.2) = kv.map (·.2.2) := by
  unfold setL
  constructor
  · apply List.ext_getElem?
    intro j
    rw [List.getElem?_map, List.getElem?_modify, List.getElem?_map]
    cases kv[j]? with
    | none => rfl
    | some x => by_cases h : i = j <;> simp [h]
  · apply List.ext_getElem?
    intro j
    rw [List.getElem?_map, List.getElem?_modify, List.getElem?_map]
    cases kv[j]? with
    | none => rfl
    | some x => by_cases h : i = j <;> simp [h]
theorem findL_erase {k : Int} {t : Int} : ∀ {kv : List (Int × Value × Nat)} {i j : Nat} {u : Value}, (kv.map (·.1)).Nodup → findL k kv i = some (j, u) →
    (findL t (kv.eraseIdx (j - i)) i).map (·.2) = if t = k then none else (findL t kv i).map (·.2)
  | [], i, j, u, _, h => by cases h
  | p :: kv, i, j, u, hn, h => by
    rw [List.map_cons, List.nodup_cons] at hn
    have hno : ∀ m, findL p.1 kv m = none := fun m => by
      cases hf : findL p.1 kv m with
      | none => rfl
      | some r =>
        obtain ⟨_, b, hb⟩ := findL_in (j := r.1) (u := r.2) hf
        exact absurd (List.mem_map.2 ⟨_, List.mem_of_getElem? hb, rfl⟩) hn.1
    have sh : ∀ (kv : List (Int × Value × Nat)) (t : Int) (a b : Nat), (findL t kv a).map (·.2) = (findL t kv b).map (·.2) := by
      intro kv t
      induction kv with
      | nil => intro a b; rfl
      | cons x kv ih =>
        intro a b
        unfold findL
        by_cases h : t = x.1
        · rw [if_pos h, if_pos h]; rfl
        · rw [if_neg h, if_neg h]; exact ih _ _
    unfold findL at h
    split at h
    · rename_i hk
      obtain ⟨rfl, rfl⟩ := Prod.mk.inj (Option.some.inj h)
      rw [Nat.sub_self, List.eraseIdx_cons_zero]
      by_cases ht : t = k
      · rw [if_pos ht, ht, hk, hno]
        rfl
      · rw [if_neg ht]
        rw [findL_cons, if_neg (fun h => ht (h.trans hk.symm))]
        exact sh kv t _ _
    · rename_i hk
      obtain ⟨h1, _⟩ := findL_in h
      rw [show j - i = (j - (i + 1)) + 1 by omega, List.eraseIdx_cons_succ]
      have ih := findL_erase (t := t) hn.2 h
      rw [findL_cons, findL_cons]
      by_cases ht : t = p.1
      · rw [if_pos ht, if_pos ht, if_neg (fun h => hk (h.symm.trans ht))]
      · rw [if_neg ht, if_neg ht]
        exact ih
theorem map_erase {α β : Type} (f : α → β) : ∀ (l : List α) (j : Nat), (l.map f).eraseIdx j = (l.eraseIdx j).map f
  | [], j => rfl
  | a :: l, 0 => rfl
  | a :: l, j + 1 => by rw [List.map_cons, List.eraseIdx_cons_succ, List.eraseIdx_cons_succ, List.map_cons, map_erase f l j]
section
variable {w : World} {g : Nat} {q : IntKind} {kv : List (Int × Value × Nat)} {clk : Nat} {T K E : TypeId} {s : Int → Option Value}
theorem put_as (hT : Try.prog.underlying T = some (.map K E)) (hK : Try.prog.underlying K = some (.int q)) (h : IsMapOf w g q kv clk) (ha : MapAs kv clk s) (k : Int) (v : Value) :
    ∃ w' kv' clk', (Instr.mapUpdate T (.map (some g)) (.int q k) v).run Try.prog w = .ok () w' ∧ IsMapOf w' g q kv' clk' ∧ w.grownBy w' (some g) ∧ MapAs kv' clk' (fun t => if t = k then some v else s t) := by
  cases hf : findL k kv 0 with
  | none =>
    obtain ⟨w', h1, h2, h3⟩ := run_put_new hT hK h k v hf
    refine ⟨w', _, _, h1, h2, h3, ⟨fun t => ?_, ?_, ?_, ?_⟩⟩
    · rw [findL_append k v clk t kv 0 hf, ha.look t]
    · rw [List.map_append, List.nodup_append]
      refine ⟨ha.keys, by simp, fun a h1 b h2 => ?_⟩
      obtain ⟨p, hp, rfl⟩ := List.mem_map.1 h1
      simp at h2
      rw [h2]
      exact findL_not hf p hp
    · intro p hp
      rcases List.mem_append.1 hp with hp | hp
      · have := ha.old p hp; omega
      · simp at hp; rw [hp]; simp
    · rw [List.map_append, List.nodup_append]
      refine ⟨ha.born, by simp, fun a h1 b h2 => ?_⟩
      obtain ⟨p, hp, rfl⟩ := List.mem_map.1 h1
      simp at h2
      have := ha.old p hp
      omega
  | some r =>
    obtain ⟨j, u⟩ := r
    have h4 := fun t => findL_set k v t kv 0 j u hf
    obtain ⟨w', h1, h2, h3⟩ := run_put_old hT hK h k v u j hf (by simpa using (h4 0).2.1)
    refine ⟨w', _, _, h1, h2, h3, ⟨fun t => ?_, ?_, ?_, ?_⟩⟩
    · have := (h4 t).2.2
      rw [Nat.sub_zero] at this
      rw [this, ha.look t]
    · rw [(setL_keys kv j v).1]; exact ha.keys
    · intro p hp
      have hm : p.2.2 ∈ (setL kv j v).map (·.2.2) := List.mem_map.2 ⟨p, hp, rfl⟩
      rw [(setL_keys kv j v).2] at hm
      obtain ⟨x, hx, he⟩ := List.mem_map.1 hm
      have := ha.old x hx
      omega
    · rw [(setL_keys kv j v).2]; exact ha.born
theorem del_as {ty : TypeId} (hT : Try.prog.underlying T = some (.map K E)) (hK : Try.prog.underlying K = some (.int q)) (h : IsMapOf w g q kv clk) (ha : MapAs kv clk s) (k : Int) :
    ∃ w' kv', (Builtin.delete_ #[T, K] ty #[.map (some g), .int q k]).run Try.prog w = .ok (.tuple #[]) w' ∧ IsMapOf w' g q kv' clk ∧ w.grownBy w' (some g) ∧ MapAs kv' clk (fun t => if t = k then none else s t) := by
  have h1 := MapKept.run_getObj_map (P := Try.prog) h
  have h2 : ∀ b, (Instr.checkKey b 10000 K (.int q k)).run Try.prog w = .ok () w := fun b => MapKept.run_checkKey (w := w) hK (isKey_int q k) b 9999
  have h3 := MapKept.run_findKey (w := w) hK (findNow_ents q k kv 0)
  cases hf : findL k kv 0 with
  | none =>
    rw [hf] at h3
    have h4 := MapKept.run_setObj_map (P := Try.prog) (.map (ents q kv).toArray clk) h
    obtain ⟨hg, hp⟩ := heap_put (o' := .map (ents q kv).toArray clk) h
    refine ⟨_, kv, ?_, hp, hg, ⟨fun t => ?_, ha.keys, ha.old, ha.born⟩⟩
    · simp [Builtin.delete_, run_underlying hT, h1, h2, h3, h4, Result.andThen]
    · by_cases ht : t = k
      · rw [if_pos ht, ht, hf]; rfl
      · rw [if_neg ht]; exact ha.look t
  | some r =>
    obtain ⟨j, u⟩ := r
    rw [hf] at h3
    have h4 := MapKept.run_setObj_map (P := Try.prog) (.map ((ents q kv).eraseIdx j).toArray clk) h
    obtain ⟨hg, hp⟩ := heap_put (o' := .map ((ents q kv).eraseIdx j).toArray clk) h
    refine ⟨_, kv.eraseIdx j, ?_, ?_, hg, ⟨fun t => ?_, ?_, ?_, ?_⟩⟩
    · simp [Builtin.delete_, run_underlying hT, h1, h2, h3, h4, Result.andThen]
    · unfold IsMapOf
      rw [hp]
      unfold ents
      rw [map_erase]
    · have := findL_erase (t := t) ha.keys hf
      rw [Nat.sub_zero] at this
      rw [this, ha.look t]
    · rw [← map_erase]; exact ha.keys.sublist (List.eraseIdx_sublist _ _)
    · exact fun p hp => ha.old p (List.mem_of_mem_eraseIdx hp)
    · rw [← map_erase]; exact ha.born.sublist (List.eraseIdx_sublist _ _)
end
/-- How many entries have not come yet. -/
def leftN (kv : List (Int × Value × Nat)) (seen : Array Nat) : Nat := (kv.filter fun p => !seen.contains p.2.2).length
theorem leftN_le (seen : Array Nat) (b : Nat) : ∀ kv : List (Int × Value × Nat), leftN kv (seen.push b) ≤ leftN kv seen
  | [] => Nat.le_refl _
  | p :: kv => by
    have ih := leftN_le seen b kv
    unfold leftN at ih ⊢
    rw [List.filter_cons, List.filter_cons]
    by_cases h : p.2.2 ∈ seen
    · simp [h] at ih ⊢
      exact ih
    · by_cases h2 : p.2.2 = b
      · have hb : b ∉ seen := by rw [← h2]; exact h
        simp [h2, hb] at ih ⊢
        omega
      · simp [h, h2] at ih ⊢
        exact ih
theorem leftN_lt {seen : Array Nat} {p : Int × Value × Nat} (hn : p.2.2 ∉ seen) : ∀ {kv : List (Int × Value × Nat)}, p ∈ kv → leftN kv (seen.push p.2.2) < leftN kv seen
  | x :: kv, hp => by
    have h1 := leftN_le seen p.2.2 kv
    rcases List.mem_cons.1 hp with rfl | hp
    · unfold leftN at h1 ⊢
      rw [List.filter_cons, List.filter_cons]
      simp [hn] at h1 ⊢
      omega
    · have ih := leftN_lt hn hp
      unfold leftN at ih ⊢
      rw [List.filter_cons, List.filter_cons]
      by_cases h : x.2.2 ∈ seen
      · simp [h] at ih ⊢
        exact ih
      · by_cases h2 : x.2.2 = p.2.2
        · simp [hn, h2] at ih ⊢
          omega
        · simp [h, h2] at ih ⊢
          exact ih
theorem left_mem {q : IntKind} {kv : List (Int × Value × Nat)} {seen : Array Nat} {e : MapEntry} (h : e ∈ (leftOf (ents q kv).toArray seen).toList) : ∃ p ∈ kv, e = { key := .int q p.1, val := p.2.1, born := p.2.2 } ∧ p.2.2 ∉ seen := by
  unfold leftOf ents at h
  simp at h
  obtain ⟨⟨a, b, c, hm, rfl⟩, hs⟩ := h
  exact ⟨(a, b, c), hm, rfl, by simpa using hs⟩
theorem left_none {q : IntKind} {kv : List (Int × Value × Nat)} {seen : Array Nat} (h : (leftOf (ents q kv).toArray seen).size = 0) : ∀ p ∈ kv, p.2.2 ∈ seen := by
  intro p hp
  rcases Classical.em (p.2.2 ∈ seen) with h1 | h1
  · exact h1
  · exfalso
    have he : (leftOf (ents q kv).toArray seen).toList = [] := by
      rw [← List.length_eq_zero_iff, Array.length_toList]
      exact h
    have hm : ({ key := .int q p.1, val := p.2.1, born := p.2.2 } : MapEntry) ∈ (leftOf (ents q kv).toArray seen).toList := by
      unfold leftOf ents
      simp
      exact ⟨⟨p.1, p.2.1, p.2.2, hp, rfl, rfl, rfl⟩, h1⟩
    rw [he] at hm
    cases hm
section
variable {w : World} {g r : Nat} {q : IntKind} {kv : List (Int × Value × Nat)} {clk : Nat} {s : Int → Option Value} {seen : Array Nat}
/-- The next entry, or none is left. -/
theorem next_as (ty : TypeId) (h : IsMapOf w g q kv clk) (ha : MapAs kv clk s) (hr : w.heap[r]? = some (.mapIter (some g) clk seen clk)) (hgr : g ≠ r) :
    ((∀ p ∈ kv, p.2.2 ∈ seen) ∧ (Instr.next (.pointer (some ⟨r, 0, none⟩)) false ty).run Try.prog w = .ok (.tuple #[.bool false]) w) ∨
    ∃ (t : Int) (v : Value) (b : Nat) (w' : World), (t, v, b) ∈ kv ∧ s t = some v ∧ leftN kv (seen.push b) < leftN kv seen ∧ (Instr.next (.pointer (some ⟨r, 0, none⟩)) false ty).run Try.prog w = .ok (.tuple #[.bool true, .int q t, v]) w' ∧
      w'.heap[r]? = some (.mapIter (some g) clk (seen.push b) clk) ∧ IsMapOf w' g q kv clk ∧ w.grownBy w' (some r) ∧ (Instr.entry (.pointer (some ⟨r, 0, none⟩))).run Try.prog w' = .ok (.tuple #[.int q t, v]) w' := by
  have hlt := (Array.getElem?_eq_some_iff.1 hr).1
  have hold : ∀ x ∈ (ents q kv).toArray.toList, x.born < clk := fun x hx => by
    simp [ents] at hx
    obtain ⟨a, b, c, hm, rfl⟩ := hx
    exact ha.old _ hm
  rcases run_next_at (P := Try.prog) w ty r g clk clk seen (ents q kv).toArray clk hr h hold (Nat.le_refl _) with ⟨h0, hrun⟩ | ⟨e, he, w1, hw1, hrun⟩
  · exact .inl ⟨left_none h0, hrun⟩
  · right
    obtain ⟨⟨t, v, b⟩, hp, rfl, hns⟩ := left_mem he
    have hh : w1.heap = w.heap := by rcases hw1 with rfl | rfl <;> rfl
    have hg1 : w.grownBy (setBlock w1 r (.mapIter (some g) clk (seen.push b) clk)) (some r) := by
      rcases hw1 with rfl | rfl
      · exact ⟨rfl, rfl, rfl, by simp [setBlock], fun k hk hne => by have : r ≠ k := (fun e => hne (by rw [e])); simp [setBlock, this]⟩
      · exact ⟨rfl, rfl, rfl, by simp [setBlock, hh], fun k hk hne => by have : r ≠ k := (fun e => hne (by rw [e])); simp [setBlock, this, hh]⟩
    have hr2 : (setBlock w1 r (.mapIter (some g) clk (seen.push b) clk)).heap[r]? = some (.mapIter (some g) clk (seen.push b) clk) := by
      simp [setBlock, hh, hlt]
    have hm2 : IsMapOf (setBlock w1 r (.mapIter (some g) clk (seen.push b) clk)) g q kv clk := by
      unfold IsMapOf at h ⊢
      have hrg : r ≠ g := fun e => hgr e.symm
      rw [← h]
      simp [setBlock, hh, hrg]
    refine ⟨t, v, b, _, hp, ?_, leftN_lt hns hp, hrun, hr2, hm2, hg1, ?_⟩
    · have := findL_mem 0 ha.keys hp
      rw [ha.look t] at this
      exact this
    · refine run_entry_at _ r g clk seen (ents q kv).toArray clk { key := .int q t, val := v, born := b } hr2 hm2 ?_ ?_
      · simp [ents]
        exact ⟨t, v, b, hp, rfl, rfl, rfl⟩
      · have : (ents q kv).toArray.toList.map (·.born) = kv.map (·.2.2) := by simp [ents]
        rw [this]
        exact ha.born
end
end Go.Proofs.Ythkppihfdlmhgaa
