/- Two plans one after the other: the program's way and the reference's way, in plain Lean. -/
import Derived.Test.YtfghkmhabpagkaaSorted
namespace Go.Proofs.Ytfghkmhabpagkaa
open Go

/-- The change of a key that both plans name. -/
def joinC (c d : Chg) : Chg := ⟨c.key, c.was, c.old, d.is, d.new⟩
/-- The second change begins where the first one ends. -/
def Meet (c d : Chg) : Prop := c.is = d.was ∧ c.new = d.old
instance (c d : Chg) : Decidable (Meet c d) := by unfold Meet; exact inferInstance

/-- One change of the first plan, and the second plan's from here on. -/
def thnIn (c : Chg) (f : List Chg → Option (List Chg)) : List Chg → Option (List Chg)
  | [] => (f []).map (c :: ·)
  | d :: b =>
    if d.key < c.key then (thnIn c f b).map (d :: ·)
    else if d.key = c.key then (if Meet c d then (f b).map (fun r => if (c.was || d.is) = true then joinC c d :: r else r) else none)
    else (f (d :: b)).map (c :: ·)
/-- What plan.Then computes of two plans. -/
def thn : List Chg → List Chg → Option (List Chg)
  | [] => some
  | c :: a => thnIn c (thn a)

/-- What becomes of a key. -/
def thenAt : Option Chg → Option Chg → Option Chg
  | none, y => y
  | some c, none => some c
  | some c, some d => if (c.was || d.is) = true then some (joinC c d) else none
theorem thenAt_both (c d : Chg) : thenAt (some c) (some d) = if (c.was || d.is) = true then some (joinC c d) else none := rfl
/-- The two plans do not fit at a key. -/
def Clash (x y : Option Chg) : Prop := ∃ c d, x = some c ∧ y = some d ∧ ¬ Meet c d

/-- What Then is of two plans, by keys. -/
def ThnSpec (a b : List Chg) (t : Option (List Chg)) : Prop :=
  (∃ r, t = some r ∧ Srt Chg.key r ∧ (∀ k, look Chg.key r k = thenAt (look Chg.key a k) (look Chg.key b k)) ∧ ∀ k, ¬ Clash (look Chg.key a k) (look Chg.key b k)) ∨
  (t = none ∧ ∃ k, Clash (look Chg.key a k) (look Chg.key b k))

theorem thnSpec_unique {a b : List Chg} {t u : Option (List Chg)} (h1 : ThnSpec a b t) (h2 : ThnSpec a b u) : t = u := by
  rcases h1 with ⟨r, rfl, hs, hl, hn⟩ | ⟨rfl, k, hk⟩
  · rcases h2 with ⟨q, rfl, hs2, hl2, _⟩ | ⟨_, k, hk⟩
    · rw [srt_ext hs hs2 fun k => (hl k).trans (hl2 k).symm]
    · exact absurd hk (hn k)
  · rcases h2 with ⟨q, _, _, _, hn⟩ | ⟨rfl, _⟩
    · exact absurd hk (hn k)
    · rfl

theorem thenAt_none {x y : Option Chg} (hx : x = none) (hy : y = none) : thenAt x y = none := by subst hx; subst hy; rfl
theorem clash_left {y : Option Chg} : ¬ Clash none y := fun ⟨c, d, h, _⟩ => by cases h
theorem clash_right {x : Option Chg} : ¬ Clash x none := fun ⟨c, d, _, h, _⟩ => by cases h

theorem thnIn_spec (c : Chg) (a : List Chg) (f : List Chg → Option (List Chg)) (hc : Srt Chg.key (c :: a)) :
    ∀ b, Srt Chg.key b → (∀ b', Srt Chg.key b' → ThnSpec a b' (f b')) → ThnSpec (c :: a) b (thnIn c f b)
  | [], hb, hf => by
    unfold thnIn
    rcases hf [] srt_nil with ⟨r, hr, hs, hl, hn⟩ | ⟨hr, k, hk⟩
    · rw [hr]
      left
      refine ⟨c :: r, rfl, srt_cons_of_look hs fun k hk => ?_, fun k => ?_, fun k => clash_right⟩
      · rw [hl, look_lt hc hk, look_nil]
        rfl
      · rw [look_cons, look_cons, look_nil]
        by_cases h : c.key = k
        · rw [if_pos h, if_pos h]; rfl
        · rw [if_neg h, if_neg h, hl, look_nil]
    · exact absurd hk clash_right
  | d :: b, hb, hf => by
    unfold thnIn
    have hb2 := (srt_cons.1 hb).2
    by_cases h1 : d.key < c.key
    · rw [if_pos h1]
      have hla : ∀ k, k ≤ d.key → look Chg.key (c :: a) k = none := fun k hk => by
        rw [look_cons, if_neg (by omega)]
        exact look_lt hc (by omega)
      rcases thnIn_spec c a f hc b hb2 hf with ⟨r, hr, hs, hl, hn⟩ | ⟨hr, k, hk⟩
      · rw [hr]
        left
        refine ⟨d :: r, rfl, srt_cons_of_look hs fun k hk => ?_, fun k => ?_, fun k => ?_⟩
        · rw [hl]
          exact thenAt_none (hla k hk) (look_lt hb hk)
        · rw [look_cons, look_cons (l := b)]
          by_cases h : d.key = k
          · rw [if_pos h, if_pos h, hla k (by omega)]; rfl
          · rw [if_neg h, if_neg h, hl]
        · by_cases h : d.key = k
          · rw [hla k (by omega)]; exact clash_left
          · have := hn k
            rwa [look_cons (l := b), if_neg h]
      · rw [hr]
        right
        refine ⟨rfl, k, ?_⟩
        have hne : ¬ d.key = k := fun h => by
          rw [hla k (by omega)] at hk
          exact clash_left hk
        rwa [look_cons (l := b), if_neg hne]
    · rw [if_neg h1]
      by_cases h2 : d.key = c.key
      · rw [if_pos h2]
        have hl0 : look Chg.key (c :: a) c.key = some c := by rw [look_cons, if_pos rfl]
        have hl1 : look Chg.key (d :: b) c.key = some d := by rw [look_cons, if_pos h2]
        by_cases h3 : Meet c d
        · rw [if_pos h3]
          have away : ∀ k, ¬ c.key = k → look Chg.key (c :: a) k = look Chg.key a k ∧ look Chg.key (d :: b) k = look Chg.key b k := fun k hk => by
            rw [look_cons, look_cons (l := b), if_neg hk, if_neg (by omega)]
            exact ⟨rfl, rfl⟩
          rcases hf b hb2 with ⟨r, hr, hs, hl, hn⟩ | ⟨hr, k, hk⟩
          · rw [hr, Option.map_some]
            left
            have hr0 : ∀ k, k ≤ c.key → look Chg.key r k = none := fun k hk => by
              rw [hl]
              exact thenAt_none (look_lt hc hk) (look_lt hb (by omega))
            refine ⟨_, rfl, ?_, fun k => ?_, fun k => ?_⟩
            · by_cases hw : (c.was || d.is) = true
              · rw [if_pos hw]
                exact srt_cons_of_look hs hr0
              · rw [if_neg hw]
                exact hs
            · by_cases hk : c.key = k
              · subst hk
                rw [hl0, hl1]
                by_cases hw : (c.was || d.is) = true
                · rw [if_pos hw, look_cons]
                  rw [thenAt_both, if_pos hw]
                  exact if_pos rfl
                · rw [if_neg hw, hr0 _ (by omega)]
                  rw [thenAt_both, if_neg hw]
              · rw [(away k hk).1, (away k hk).2, ← hl]
                by_cases hw : (c.was || d.is) = true
                · rw [if_pos hw, look_cons]
                  exact if_neg hk
                · rw [if_neg hw]
            · by_cases hk : c.key = k
              · subst hk
                rw [hl0, hl1]
                rintro ⟨x, y, hx, hy, hm⟩
                cases hx; cases hy
                exact hm h3
              · rw [(away k hk).1, (away k hk).2]
                exact hn k
          · rw [hr]
            right
            refine ⟨rfl, k, ?_⟩
            have hne : ¬ c.key = k := fun h => by
              rw [look_lt hc (by omega)] at hk
              exact clash_left hk
            rw [(away k hne).1, (away k hne).2]
            exact hk
        · rw [if_neg h3]
          right
          exact ⟨rfl, c.key, c, d, hl0, hl1, h3⟩
      · rw [if_neg h2]
        have hlb : ∀ k, k ≤ c.key → look Chg.key (d :: b) k = none := fun k hk => by
          rw [look_cons, if_neg (by omega)]
          exact look_lt hb (by omega)
        rcases hf (d :: b) hb with ⟨r, hr, hs, hl, hn⟩ | ⟨hr, k, hk⟩
        · rw [hr]
          left
          refine ⟨c :: r, rfl, srt_cons_of_look hs fun k hk => ?_, fun k => ?_, fun k => ?_⟩
          · rw [hl]
            exact thenAt_none (look_lt hc hk) (hlb k hk)
          · rw [look_cons, look_cons (l := a)]
            by_cases h : c.key = k
            · rw [if_pos h, if_pos h, hlb k (by omega)]; rfl
            · rw [if_neg h, if_neg h, hl]
          · by_cases h : c.key = k
            · rw [hlb k (by omega)]; exact clash_right
            · have := hn k
              rwa [look_cons (l := a), if_neg h]
        · rw [hr]
          right
          refine ⟨rfl, k, ?_⟩
          have hne : ¬ c.key = k := fun h => by
            rw [hlb k (by omega)] at hk
            exact clash_right hk
          rwa [look_cons (l := a), if_neg hne]

theorem thn_spec : ∀ a b, Srt Chg.key a → Srt Chg.key b → ThnSpec a b (thn a b)
  | [], b, _, hb => .inl ⟨b, rfl, hb, fun k => by rw [look_nil]; rfl, fun k => by rw [look_nil]; exact clash_left⟩
  | c :: a, b, ha, hb => thnIn_spec c a (thn a) ha b hb fun b' hb' => thn_spec a b' (srt_cons.1 ha).2 hb'

/-! ### The reference's way -/
/-- The keys of two ascending lists, each once. -/
def mrgIn (x : Int) (f : List Int → List Int) : List Int → List Int
  | [] => x :: f []
  | y :: b => if x < y then x :: f (y :: b) else if x = y then y :: f b else y :: mrgIn x f b
def mrg : List Int → List Int → List Int
  | [] => id
  | x :: a => mrgIn x (mrg a)

def rthn (a b : List Chg) : List Int → Option (List Chg)
  | [] => some []
  | k :: ks =>
    match look Chg.key a k, look Chg.key b k with
    | some c, some d => if Meet c d then (rthn a b ks).map (fun r => if (c.was || d.is) = true then joinC c d :: r else r) else none
    | some c, none => (rthn a b ks).map (fun r => if (c.was || c.is) = true then c :: r else r)
    | none, some d => (rthn a b ks).map (fun r => if (d.was || d.is) = true then d :: r else r)
    | none, none => rthn a b ks

/-- Ints that increase. -/
abbrev Inc (l : List Int) : Prop := Srt (fun x : Int => x) l
def MrgSpec (a b r : List Int) : Prop := Inc r ∧ ∀ k, k ∈ r ↔ k ∈ a ∨ k ∈ b
theorem inc_cons {x : Int} {l : List Int} (hs : Inc l) (h : ∀ y ∈ l, x < y) : Inc (x :: l) := srt_cons.2 ⟨h, hs⟩
theorem mrgIn_spec (x : Int) (a : List Int) (f : List Int → List Int) (ha : Inc (x :: a)) :
    ∀ b, Inc b → (∀ b', Inc b' → MrgSpec a b' (f b')) → MrgSpec (x :: a) b (mrgIn x f b)
  | [], hb, hf => by
    obtain ⟨h1, h2⟩ := hf [] srt_nil
    unfold mrgIn
    refine ⟨inc_cons h1 fun y hy => ?_, fun k => ?_⟩
    · rcases (h2 y).1 hy with h | h
      · exact (srt_cons.1 ha).1 y h
      · cases h
    · rw [List.mem_cons, h2, List.mem_cons, or_assoc]
  | y :: b, hb, hf => by
    have hb2 := (srt_cons.1 hb).2
    unfold mrgIn
    by_cases hlt : x < y
    · rw [if_pos hlt]
      obtain ⟨h1, h2⟩ := hf (y :: b) hb
      refine ⟨inc_cons h1 fun z hz => ?_, fun k => ?_⟩
      · rcases (h2 z).1 hz with h | h
        · exact (srt_cons.1 ha).1 z h
        · rcases List.mem_cons.1 h with rfl | h
          · exact hlt
          · have := (srt_cons.1 hb).1 z h
            omega
      · rw [List.mem_cons, h2, List.mem_cons (b := x), or_assoc]
    · rw [if_neg hlt]
      by_cases he : x = y
      · rw [if_pos he]
        subst he
        obtain ⟨h1, h2⟩ := hf b hb2
        refine ⟨inc_cons h1 fun z hz => ?_, fun k => ?_⟩
        · rcases (h2 z).1 hz with h | h
          · exact (srt_cons.1 ha).1 z h
          · exact (srt_cons.1 hb).1 z h
        · simp only [List.mem_cons, h2]
          constructor
          · rintro (h | h | h)
            · exact .inl (.inl h)
            · exact .inl (.inr h)
            · exact .inr (.inr h)
          · rintro ((h | h) | h | h)
            · exact .inl h
            · exact .inr (.inl h)
            · exact .inl h
            · exact .inr (.inr h)
      · rw [if_neg he]
        obtain ⟨h1, h2⟩ := mrgIn_spec x a f ha b hb2 hf
        refine ⟨inc_cons h1 fun z hz => ?_, fun k => ?_⟩
        · rcases (h2 z).1 hz with h | h
          · rcases List.mem_cons.1 h with rfl | h
            · omega
            · have := (srt_cons.1 ha).1 z h
              omega
          · exact (srt_cons.1 hb).1 z h
        · simp only [List.mem_cons, h2]
          constructor
          · rintro (h | (h | h) | h)
            · exact .inr (.inl h)
            · exact .inl (.inl h)
            · exact .inl (.inr h)
            · exact .inr (.inr h)
          · rintro ((h | h) | h | h)
            · exact .inr (.inl (.inl h))
            · exact .inr (.inl (.inr h))
            · exact .inl h
            · exact .inr (.inr h)
theorem mrg_spec : ∀ a b, Inc a → Inc b → MrgSpec a b (mrg a b)
  | [], b, _, hb => ⟨hb, fun k => by simp [mrg]⟩
  | x :: a, b, ha, hb => mrgIn_spec x a (mrg a) ha b hb fun b' hb' => mrg_spec a b' (srt_cons.1 ha).2 hb'

def keysOf (l : List Chg) : List Int := l.map Chg.key
theorem inc_keys {l : List Chg} (h : Srt Chg.key l) : Inc (keysOf l) := List.pairwise_map.2 h
theorem mem_keys {l : List Chg} {k : Int} : k ∈ keysOf l ↔ look Chg.key l k ≠ none := by
  unfold keysOf
  rw [List.mem_map, Ne, look_none]
  constructor
  · rintro ⟨c, hc, rfl⟩ h
    exact h c hc rfl
  · intro h
    apply Classical.byContradiction
    intro hn
    exact h fun c hc he => hn ⟨c, hc, he⟩

theorem good_says {c : Chg} (h : GoodC c) : (c.was || c.is) = true := by simpa using h.1

theorem rthn_spec (a b : List Chg) (ha : ∀ c ∈ a, GoodC c) (hb : ∀ c ∈ b, GoodC c) : ∀ ks, Inc ks →
    (∃ r, rthn a b ks = some r ∧ Srt Chg.key r ∧ (∀ k, look Chg.key r k = if k ∈ ks then thenAt (look Chg.key a k) (look Chg.key b k) else none) ∧ ∀ k ∈ ks, ¬ Clash (look Chg.key a k) (look Chg.key b k)) ∨
    (rthn a b ks = none ∧ ∃ k, Clash (look Chg.key a k) (look Chg.key b k))
  | [], _ => .inl ⟨[], rfl, srt_nil, fun k => by simp [look_nil], fun k hk => by cases hk⟩
  | x :: ks, hi => by
    have hlt := (srt_cons.1 hi).1
    have hx0 : x ∉ ks := fun h => by have := hlt x h; omega
    rcases rthn_spec a b ha hb ks (srt_cons.1 hi).2 with ⟨r, hr, hs, hl, hn⟩ | ⟨hr, k, hk⟩
    · have low : ∀ k, k ≤ x → look Chg.key r k = none := fun k hk => by
        rw [hl, if_neg (fun h => by have := hlt k h; omega)]
      -- one more change at the head, or none
      have put : ∀ z : Chg, z.key = x → thenAt (look Chg.key a x) (look Chg.key b x) = some z → ¬ Clash (look Chg.key a x) (look Chg.key b x) →
          Srt Chg.key (z :: r) ∧ (∀ k, look Chg.key (z :: r) k = if k ∈ x :: ks then thenAt (look Chg.key a k) (look Chg.key b k) else none) ∧ ∀ k ∈ x :: ks, ¬ Clash (look Chg.key a k) (look Chg.key b k) := by
        intro z hz he hc
        refine ⟨srt_cons_of_look hs fun k hk => low k (by omega), fun k => ?_, fun k hk => ?_⟩
        · rw [look_cons]
          by_cases h : z.key = k
          · obtain rfl : x = k := by omega
            rw [if_pos h, if_pos (List.mem_cons_self ..), he]
          · rw [if_neg h, hl]
            by_cases hm : k ∈ ks
            · rw [if_pos hm, if_pos (List.mem_cons_of_mem _ hm)]
            · rw [if_neg hm, if_neg (fun h2 => by rcases List.mem_cons.1 h2 with h3 | h3; · omega
                                                  · exact hm h3)]
        · rcases List.mem_cons.1 hk with rfl | hm
          · exact hc
          · exact hn k hm
      have skip : thenAt (look Chg.key a x) (look Chg.key b x) = none → ¬ Clash (look Chg.key a x) (look Chg.key b x) →
          (∀ k, look Chg.key r k = if k ∈ x :: ks then thenAt (look Chg.key a k) (look Chg.key b k) else none) ∧ ∀ k ∈ x :: ks, ¬ Clash (look Chg.key a k) (look Chg.key b k) := by
        intro he hc
        refine ⟨fun k => ?_, fun k hk => ?_⟩
        · rw [hl]
          by_cases h : k = x
          · subst h
            rw [if_neg hx0, if_pos (List.mem_cons_self ..), he]
          · by_cases hm : k ∈ ks
            · rw [if_pos hm, if_pos (List.mem_cons_of_mem _ hm)]
            · rw [if_neg hm, if_neg (fun h2 => by rcases List.mem_cons.1 h2 with h3 | h3; · exact h h3
                                                  · exact hm h3)]
        · rcases List.mem_cons.1 hk with rfl | hm
          · exact hc
          · exact hn k hm
      unfold rthn
      rcases hxa : look Chg.key a x with _ | c <;> rcases hxb : look Chg.key b x with _ | d <;> rw [hxa, hxb] at put skip <;> dsimp only
      · obtain ⟨g1, g2⟩ := skip rfl clash_left
        exact .inl ⟨r, hr, hs, g1, g2⟩
      · obtain ⟨hd1, hd2⟩ := look_some hxb
        rw [hr, Option.map_some, if_pos (good_says (hb d hd1))]
        exact .inl ⟨_, rfl, put d hd2 rfl clash_left⟩
      · obtain ⟨hc1, hc2⟩ := look_some hxa
        rw [hr, Option.map_some, if_pos (good_says (ha c hc1))]
        exact .inl ⟨_, rfl, put c hc2 rfl clash_right⟩
      · obtain ⟨hc1, hc2⟩ := look_some hxa
        by_cases hm : Meet c d
        · have hcl : ¬ Clash (some c) (some d) := by
            rintro ⟨p, q, h1, h2, h3⟩
            cases h1; cases h2
            exact h3 hm
          rw [if_pos hm, hr, Option.map_some]
          by_cases hw : (c.was || d.is) = true
          · rw [if_pos hw]
            exact .inl ⟨_, rfl, put (joinC c d) hc2 (by rw [thenAt_both, if_pos hw]) hcl⟩
          · rw [if_neg hw]
            obtain ⟨g1, g2⟩ := skip (by rw [thenAt_both, if_neg hw]) hcl
            exact .inl ⟨r, rfl, hs, g1, g2⟩
        · rw [if_neg hm]
          exact .inr ⟨rfl, x, c, d, hxa, hxb, hm⟩
    · right
      refine ⟨?_, k, hk⟩
      unfold rthn
      rw [hr]
      rcases look Chg.key a x with _ | c <;> rcases look Chg.key b x with _ | d <;> dsimp only <;> try rfl
      split <;> rfl

/-- THE TWO WAYS ARE ONE. -/
theorem rthn_thn (a b : List Chg) (ha : Plan a) (hb : Plan b) : rthn a b (mrg (keysOf a) (keysOf b)) = thn a b := by
  obtain ⟨ga, sa⟩ := plan_iff.1 ha
  obtain ⟨gb, sb⟩ := plan_iff.1 hb
  refine thnSpec_unique (a := a) (b := b) ?_ (thn_spec a b sa sb)
  obtain ⟨hi, hm⟩ := mrg_spec (keysOf a) (keysOf b) (inc_keys sa) (inc_keys sb)
  have out : ∀ k, k ∉ mrg (keysOf a) (keysOf b) → look Chg.key a k = none ∧ look Chg.key b k = none := fun k hk => by
    rw [hm, mem_keys, mem_keys] at hk
    constructor
    · apply Classical.byContradiction
      exact fun h => hk (.inl h)
    · apply Classical.byContradiction
      exact fun h => hk (.inr h)
  rcases rthn_spec a b ga gb _ hi with ⟨r, hr, hs, hl, hn⟩ | ⟨hr, k, hk⟩
  · refine .inl ⟨r, hr, hs, fun k => ?_, fun k => ?_⟩
    · rw [hl]
      by_cases h : k ∈ mrg (keysOf a) (keysOf b)
      · rw [if_pos h]
      · rw [if_neg h, (out k h).1, (out k h).2]
        rfl
    · by_cases h : k ∈ mrg (keysOf a) (keysOf b)
      · exact hn k h
      · rw [(out k h).1]
        exact clash_left
  · exact .inr ⟨hr, k, hk⟩
end Go.Proofs.Ytfghkmhabpagkaa
