/- How the sections and waits grow, event by event. -/
import Derived.Test.YthkppihfdlmhgaaPairsP
import Derived.Test.YthkppihfdlmhgaaMap
namespace Go.Proofs.Ythkppihfdlmhgaa
open Go Go.RowKit
set_option linter.unusedVariables false

def PInv (q : Int) (l : List Ev) (k : Nat) : Prop := OpenIs q (stS (l.take k)) (secsK q (l.take k)) ∧ HasOne q (stS (l.take k)) (secsK q (l.take k))
theorem pinv_zero (q : Int) (hq : q ≠ 0) (l : List Ev) : PInv q l 0 := by
  refine ⟨fun j s h => ?_, fun t h => ?_⟩
  · simp [secsK] at h
  · simp [stS] at h
    exact absurd h.symm hq
/-- What one event does. -/
def PStep (q : Int) (o o' : List Sec) (x : Ev) : Prop :=
  (x.kind = q ∧ o' = o ++ [⟨x.thread, x.val, x.step, -1⟩]) ∨
  (x.kind = q + 1 ∧ ∃ j s, lastS x.thread o 0 = some j ∧ o[j]? = some s ∧ s.thread = x.thread ∧ o' = o.set j { s with exit := x.step }) ∨
  (x.kind ≠ q ∧ x.kind ≠ q + 1 ∧ o' = o)
theorem good_parts {l : List Ev} {k : Nat} {x : Ev} (hg : goodE l k x = true) : 0 ≤ x.step ∧ 0 ≤ x.thread ∧ x.thread < 64 ∧ 1 ≤ x.kind ∧ x.kind ≤ 4 ∧ okS (stS (l.take k) x.thread) x = true := by
  unfold goodE rightE at hg
  simp at hg
  obtain ⟨⟨⟨⟨a, b⟩, c⟩, _⟩, d⟩ := hg
  exact ⟨a, b.1, b.2, c.1, c.2, d⟩
theorem fine_steps {l : List Ev} {k : Nat} (hF : FineTo l k) : ∀ e ∈ l.take k, 0 ≤ e.step := fun e he => by
  obtain ⟨j, hj⟩ := List.getElem?_of_mem he
  rw [List.getElem?_take] at hj
  split at hj
  · exact (good_parts (hF j e (by assumption) hj)).1
  · cases hj
/-- The state behind an event at its thread. -/
theorem ok_state {s : Int × Int} {x : Ev} (h : okS s x = true) (h1 : 1 ≤ x.kind) (h4 : x.kind ≤ 4) : (x.kind = 1 ∧ s.1 = 0) ∨ (x.kind = 2 ∧ s.1 = 1) ∨ (x.kind = 3 ∧ s.1 = 0) ∨ (x.kind = 4 ∧ s.1 = 3) := by
  have : x.kind = 1 ∨ x.kind = 2 ∨ x.kind = 3 ∨ x.kind = 4 := by omega
  rcases this with h' | h' | h' | h' <;> unfold okS at h <;> simp [h'] at h ⊢ <;> exact h.1
theorem pstep {q : Int} (hq : q = 1 ∨ q = 3) {l : List Ev} {k : Nat} {x : Ev} (hx : l[k]? = some x) (hF : FineTo l k) (hg : goodE l k x = true) (hI : PInv q l k) :
    PInv q l (k + 1) ∧ PStep q (secsK q (l.take k)) (secsK q (l.take (k + 1))) x := by
  obtain ⟨ho, hh⟩ := hI
  obtain ⟨hs0, _, _, hk1, hk4, hok⟩ := good_parts hg
  have hst := ok_state hok hk1 hk4
  have hsn := secsK_snoc q (l.take k) x (fine_steps hF)
  unfold PInv
  rw [stS_take hx, take_snocE hx, hsn]
  generalize stS (l.take k) = st at ho hh hst ⊢
  generalize secsK q (l.take k) = o at ho hh ⊢
  clear hsn hF hg hx hok
  have up : ∀ t, t ≠ x.thread → upS st x t = st t := fun t ht => by unfold upS; rw [if_neg ht]
  have ups : upS st x x.thread = if x.kind = 1 then (1, x.val) else if x.kind = 3 then (3, x.val) else (0, (st x.thread).2) := by unfold upS; rw [if_pos rfl]
  by_cases hb : x.kind = q
  · have hn : (st x.thread).1 ≠ q := by omega
    have hid := close_id (x := x) ho hn
    rw [hid, if_pos hb]
    have hu : (upS st x x.thread).1 = q := by
      rw [ups]
      rcases hq with rfl | rfl
      · rw [if_pos hb]
      · rw [if_neg (by omega), if_pos hb]
    refine ⟨⟨fun j s hj => ?_, fun t ht => ?_⟩, .inl ⟨hb, rfl⟩⟩
    · rw [lastS_snoc]
      rcases Nat.lt_or_ge j o.length with hlt | hge
      · rw [List.getElem?_append_left hlt] at hj
        have h1 := ho j s hj
        by_cases hst2 : s.thread = x.thread
        · have h2 : ¬ s.exit = -1 := fun h => hn (by rw [← hst2]; exact (h1.1 h).1)
          rw [if_pos hst2.symm]
          refine ⟨fun h => absurd h h2, fun h => ?_⟩
          have := Option.some.inj h.2
          omega
        · rw [if_neg (fun h => hst2 h.symm), up _ hst2]
          exact h1
      · rw [List.getElem?_append_right hge] at hj
        have : j - o.length = 0 := by
          rcases Nat.eq_zero_or_pos (j - o.length) with h | h
          · exact h
          · rw [List.getElem?_eq_none (by simp; omega)] at hj
            cases hj
        rw [this] at hj
        obtain rfl := Option.some.inj hj
        rw [if_pos rfl]
        refine ⟨fun _ => ⟨hu, ?_⟩, fun _ => rfl⟩
        congr 1
        omega
    · rw [lastS_snoc]
      by_cases htx : x.thread = t
      · rw [if_pos htx]
        exact ⟨_, rfl⟩
      · rw [if_neg htx]
        rw [up t (fun h => htx h.symm)] at ht
        exact hh t ht
  · rw [if_neg hb, List.append_nil]
    by_cases he : x.kind = q + 1
    · have hin : (st x.thread).1 = q := by omega
      have hu : (upS st x x.thread).1 ≠ q := by
        rw [ups, if_neg (by omega), if_neg (by omega)]
        dsimp only
        omega
      obtain ⟨j, hj⟩ := hh x.thread hin
      obtain ⟨_, s, hs, hsx⟩ := lastS_some hj
      rw [Nat.sub_zero] at hs
      have hcl := close_set ho hin hj hs hsx
      refine ⟨⟨fun i y hy => ?_, fun t ht => ?_⟩, .inr (.inl ⟨he, j, s, hj, hs, hsx, hcl⟩)⟩
      · rw [lastS_map]
        rw [List.getElem?_map] at hy
        cases hz : o[i]? with
        | none => rw [hz] at hy; cases hy
        | some z =>
          rw [hz] at hy
          obtain rfl := Option.some.inj hy
          have h1 := ho i z hz
          have ht : (closeS x z).thread = z.thread := by unfold closeS; split <;> rfl
          rw [ht]
          by_cases hzx : z.thread = x.thread
          · rw [hzx]
            refine ⟨fun h => ?_, fun h => absurd h.1 hu⟩
            exfalso
            unfold closeS at h
            split at h
            · dsimp only at h; omega
            · rename_i hno
              exact hno ⟨hzx, h⟩
          · rw [up _ hzx, show closeS x z = z by unfold closeS; rw [if_neg (fun h => hzx h.1)]]
            exact h1
      · rw [lastS_map]
        by_cases htx : t = x.thread
        · subst htx; exact absurd ht hu
        · rw [up t htx] at ht
          exact hh t ht
    · have hn : (st x.thread).1 ≠ q := by omega
      have hid := close_id (x := x) ho hn
      rw [hid]
      have hu : (upS st x x.thread).1 ≠ q := by
        rw [ups]
        split
        · dsimp only; omega
        · split
          · dsimp only; omega
          · dsimp only; omega
      refine ⟨⟨fun j s hj => ?_, fun t ht => ?_⟩, .inr (.inr ⟨hb, he, rfl⟩)⟩
      · have h1 := ho j s hj
        by_cases hsx : s.thread = x.thread
        · rw [hsx] at h1 ⊢
          exact ⟨fun h => absurd (h1.1 h).1 hn, fun h => absurd h.1 hu⟩
        · rw [up _ hsx]
          exact h1
      · by_cases htx : t = x.thread
        · subst htx; exact absurd ht hu
        · rw [up t htx] at ht
          exact hh t ht

/-! ### The map of the threads -/
def MapIs (kv : List (Int × Value × Nat)) (o : List Sec) : Prop := ∀ t, (findL t kv 0).map (·.2) = (lastS t o 0).map fun j => .int .i64 (j : Nat)
theorem findL_append (k : Int) (v : Value) (b : Nat) (t : Int) : ∀ (kv : List (Int × Value × Nat)) (i : Nat), findL k kv i = none → (findL t (kv ++ [(k, v, b)]) i).map (·.2) = if t = k then some v else (findL t kv i).map (·.2)
  | [], i, _ => by
    rw [List.nil_append]
    unfold findL
    by_cases h : t = k
    · simp [h]
    · simp [h, findL]
  | p :: kv, i, hn => by
    unfold findL at hn
    split at hn
    · cases hn
    · rename_i hkp
      rw [List.cons_append]
      unfold findL
      by_cases h : t = p.1
      · rw [if_pos h, if_pos h, if_neg (show ¬ t = k from fun h' => hkp (h'.symm.trans h))]
      · rw [if_neg h, if_neg h]
        exact findL_append k v b t kv (i + 1) hn
theorem findL_set (k : Int) (v : Value) (t : Int) : ∀ (kv : List (Int × Value × Nat)) (i j : Nat) (u : Value), findL k kv i = some (j, u) →
    i ≤ j ∧ (∃ p, kv[j - i]? = some p ∧ p.1 = k) ∧ (findL t (setL kv (j - i) v) i).map (·.2) = if t = k then some v else (findL t kv i).map (·.2)
  | [], i, j, u, h => by cases h
  | p :: kv, i, j, u, h => by
    unfold findL at h
    split at h
    · rename_i hkp
      obtain ⟨rfl, rfl⟩ := Prod.mk.inj (Option.some.inj h)
      refine ⟨Nat.le_refl _, ⟨p, by simp, hkp.symm⟩, ?_⟩
      rw [Nat.sub_self]
      unfold setL
      rw [List.modify_cons]
      simp only [if_true]
      unfold findL
      by_cases ht : t = p.1
      · simp [ht, hkp]
      · rw [if_neg ht, if_neg ht, if_neg (show ¬ t = k from fun h' => ht (h'.trans hkp))]
    · rename_i hkp
      obtain ⟨h1, ⟨p', h2, h3⟩, h4⟩ := findL_set k v t kv (i + 1) j u h
      have hji : j - i = (j - (i + 1)) + 1 := by omega
      refine ⟨by omega, ⟨p', ?_, h3⟩, ?_⟩
      · rw [hji, List.getElem?_cons_succ]
        exact h2
      · rw [hji]
        unfold setL at h4 ⊢
        rw [List.modify_succ_cons]
        unfold findL
        by_cases ht : t = p.1
        · rw [if_pos ht, if_pos ht, if_neg (show ¬ t = k from fun h' => hkp (h'.symm.trans ht))]
        · rw [if_neg ht, if_neg ht]
          exact h4
/-- A store of any key. -/
theorem run_put {w : World} {g : Nat} {q : IntKind} {kv : List (Int × Value × Nat)} {clk : Nat} {T K E : TypeId} (hT : Try.prog.underlying T = some (.map K E)) (hK : Try.prog.underlying K = some (.int q)) (h : IsMapOf w g q kv clk) (k : Int) (v : Value) :
    ∃ w' kv' clk', (Instr.mapUpdate T (.map (some g)) (.int q k) v).run Try.prog w = .ok () w' ∧ IsMapOf w' g q kv' clk' ∧ w.grownBy w' (some g) ∧ ∀ t, (findL t kv' 0).map (·.2) = if t = k then some v else (findL t kv 0).map (·.2) := by
  cases hf : findL k kv 0 with
  | none =>
    obtain ⟨w', h1, h2, h3⟩ := run_put_new hT hK h k v hf
    exact ⟨w', _, _, h1, h2, h3, fun t => findL_append k v clk t kv 0 hf⟩
  | some r =>
    obtain ⟨j, u⟩ := r
    have h4 := fun t => findL_set k v t kv 0 j u hf
    obtain ⟨w', h1, h2, h3⟩ := run_put_old hT hK h k v u j hf (by simpa using (h4 0).2.1)
    exact ⟨w', _, _, h1, h2, h3, fun t => by have := (h4 t).2.2; rwa [Nat.sub_zero] at this⟩
theorem mapIs_nil : MapIs [] [] := fun t => rfl
theorem mapIs_put {kv kv' : List (Int × Value × Nat)} {o : List Sec} {s : Sec} (h : MapIs kv o) (hp : ∀ t, (findL t kv' 0).map (·.2) = if t = s.thread then some (.int .i64 (o.length : Nat)) else (findL t kv 0).map (·.2)) : MapIs kv' (o ++ [s]) := fun t => by
  rw [hp t, lastS_snoc]
  by_cases ht : t = s.thread
  · rw [if_pos ht, if_pos ht.symm]
    simp
  · rw [if_neg ht, if_neg (fun h => ht h.symm)]
    exact h t
theorem lastS_set (t : Int) (o : List Sec) : ∀ (i j : Nat) (s s' : Sec), o[j]? = some s → s'.thread = s.thread → lastS t (o.set j s') i = lastS t o i := by
  induction o with
  | nil => intro i j s s' h; cases h
  | cons y o ih =>
    intro i j s s' h ht
    cases j with
    | zero =>
      obtain rfl := Option.some.inj h
      rw [List.set_cons_zero]
      unfold lastS
      rw [ht]
    | succ j =>
      rw [List.set_cons_succ]
      unfold lastS
      rw [ih (i + 1) j s s' h ht]
theorem mapIs_set {kv : List (Int × Value × Nat)} {o : List Sec} {j : Nat} {s s' : Sec} (h : MapIs kv o) (hs : o[j]? = some s) (ht : s'.thread = s.thread) : MapIs kv (o.set j s') := fun t => by
  rw [lastS_set t o 0 j s s' hs ht]
  exact h t
end Go.Proofs.Ythkppihfdlmhgaa
