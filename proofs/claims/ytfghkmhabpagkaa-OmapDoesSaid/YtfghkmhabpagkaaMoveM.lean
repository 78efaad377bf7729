/- Moving a range, in plain Lean: the reference's map, the program's way, and what both are by keys. -/
import Derived.Test.YtfghkmhabpagkaaAppM
import Derived.Test.YtfghkmhabpagkaaDelW
import Derived.Test.YtfghkmhabpagkaaMapM
namespace Go.Proofs.Ytfghkmhabpagkaa
open Go

def val0 : Option Pr → Int
  | none => 0
  | some p => p.val
theorem val0_none : val0 none = 0 := rfl
theorem val0_some (p : Pr) : val0 (some p) = p.val := rfl
/-- The change of a key from one map to another. -/
def btwC (a b : List Pr) (k : Int) : Chg := ⟨k, (look Pr.key a k).isSome, val0 (look Pr.key a k), (look Pr.key b k).isSome, val0 (look Pr.key b k)⟩
def btw (a b : List Pr) (ks : List Int) : List Chg := ks.map (btwC a b)
theorem look_btw (a b : List Pr) (ks : List Int) (k : Int) : look Chg.key (btw a b ks) k = if k ∈ ks then some (btwC a b k) else none := by
  induction ks with
  | nil => rfl
  | cons x ks ih =>
    show look Chg.key (btwC a b x :: btw a b ks) k = _
    rw [look_cons, ih]
    by_cases h : x = k
    · subst h
      rw [if_pos (show (btwC a b x).key = x from rfl), if_pos (List.mem_cons_self ..)]
    · rw [if_neg (show ¬ (btwC a b x).key = k from h)]
      by_cases hm : k ∈ ks
      · rw [if_pos hm, if_pos (List.mem_cons_of_mem _ hm)]
      · rw [if_neg hm, if_neg (fun h2 => by rcases List.mem_cons.1 h2 with h3 | h3; · exact h h3.symm
                                            · exact hm h3)]
theorem srt_btw (a b : List Pr) {ks : List Int} (h : Inc ks) : Srt Chg.key (btw a b ks) := List.pairwise_map.2 h

/-- What becomes of a key, when the pairs ts are put over the pairs that a range leaves. -/
def chAt : Option Pr → Option Pr → Bool → Option Chg
  | some t, none, _ => some ⟨t.key, false, 0, true, t.val⟩
  | some t, some p, _ => some ⟨t.key, true, p.val, true, t.val⟩
  | none, some p, true => some (delC p)
  | none, _, _ => none
def mvIn (lo hi : Int) (t : Pr) (f : List Pr → List Chg) : List Pr → List Chg
  | [] => ⟨t.key, false, 0, true, t.val⟩ :: f []
  | p :: ps =>
    if p.key < t.key then (if inB lo hi p.key = true then delC p :: mvIn lo hi t f ps else mvIn lo hi t f ps)
    else if p.key = t.key then ⟨p.key, true, p.val, true, t.val⟩ :: f ps
    else ⟨t.key, false, 0, true, t.val⟩ :: f (p :: ps)
/-- What plan.Move computes: ts are the moved pairs at their new keys. -/
def mv (lo hi : Int) : List Pr → List Pr → List Chg
  | [] => fun ps => dels (inR lo hi ps)
  | t :: ts => mvIn lo hi t (mv lo hi ts)
def MvSpec (lo hi : Int) (ts ps : List Pr) (r : List Chg) : Prop := Srt Chg.key r ∧ ∀ k, look Chg.key r k = chAt (look Pr.key ts k) (look Pr.key ps k) (inB lo hi k)
theorem mvSpec_unique {lo hi : Int} {ts ps : List Pr} {r q : List Chg} (h1 : MvSpec lo hi ts ps r) (h2 : MvSpec lo hi ts ps q) : r = q := srt_ext h1.1 h2.1 fun k => (h1.2 k).trans (h2.2 k).symm

theorem mv_nil_spec (lo hi : Int) : ∀ ps, Srt Pr.key ps → MvSpec lo hi [] ps (dels (inR lo hi ps))
  | [], _ => ⟨srt_nil, fun k => rfl⟩
  | p :: ps, hp => by
    obtain ⟨h1, h2⟩ := mv_nil_spec lo hi ps (srt_cons.1 hp).2
    by_cases hb : inB lo hi p.key = true
    · have e : inR lo hi (p :: ps) = p :: inR lo hi ps := by unfold inR; rw [List.filter_cons, if_pos hb]
      rw [e]
      refine ⟨srt_cons_of_look h1 fun k hk => ?_, fun k => ?_⟩
      · show look Chg.key (dels (inR lo hi ps)) k = none
        rw [h2, look_lt hp hk]; rfl
      · show look Chg.key (delC p :: dels (inR lo hi ps)) k = _
        rw [look_cons, look_cons (l := ps)]
        by_cases h : p.key = k
        · subst h
          rw [if_pos (show (delC p).key = p.key from rfl), if_pos rfl, hb, look_nil]; rfl
        · rw [if_neg (show ¬ (delC p).key = k from h), if_neg h, h2]
    · have e : inR lo hi (p :: ps) = inR lo hi ps := by unfold inR; rw [List.filter_cons, if_neg hb]
      rw [e]
      refine ⟨h1, fun k => ?_⟩
      rw [h2, look_cons (l := ps)]
      by_cases h : p.key = k
      · subst h
        have hb' : inB lo hi p.key = false := by simpa using hb
        rw [if_pos rfl, look_lt hp (Int.le_refl _), hb', look_nil]; rfl
      · rw [if_neg h]

theorem mvIn_spec (lo hi : Int) (t : Pr) (ts : List Pr) (f : List Pr → List Chg) (ht : Srt Pr.key (t :: ts)) :
    ∀ ps, Srt Pr.key ps → (∀ ps', Srt Pr.key ps' → MvSpec lo hi ts ps' (f ps')) → MvSpec lo hi (t :: ts) ps (mvIn lo hi t f ps)
  | [], _, hf => by
    obtain ⟨h1, h2⟩ := hf [] srt_nil
    unfold mvIn
    refine ⟨srt_cons_of_look h1 fun k hk => ?_, fun k => ?_⟩
    · rw [h2, look_lt ht hk]; rfl
    · rw [look_cons, look_cons (l := ts)]
      by_cases h : t.key = k
      · rw [if_pos h, if_pos h, look_nil]; rfl
      · rw [if_neg h, if_neg h, h2]
  | p :: ps, hp, hf => by
    have hp2 := (srt_cons.1 hp).2
    unfold mvIn
    by_cases h1 : p.key < t.key
    · rw [if_pos h1]
      obtain ⟨g1, g2⟩ := mvIn_spec lo hi t ts f ht ps hp2 hf
      have hlt : ∀ k, k ≤ p.key → look Pr.key (t :: ts) k = none := fun k hk => by
        rw [look_cons, if_neg (by omega)]
        exact look_lt ht (by omega)
      have low : ∀ k, k ≤ p.key → look Chg.key (mvIn lo hi t f ps) k = none := fun k hk => by
        rw [g2, hlt k hk, look_lt hp hk]; rfl
      by_cases hb : inB lo hi p.key = true
      · rw [if_pos hb]
        refine ⟨srt_cons_of_look g1 low, fun k => ?_⟩
        rw [look_cons, look_cons (l := ps)]
        by_cases h : p.key = k
        · subst h
          rw [if_pos (show (delC p).key = p.key from rfl), if_pos rfl, hlt _ (Int.le_refl _), hb]; rfl
        · rw [if_neg (show ¬ (delC p).key = k from h), if_neg h, g2]
      · rw [if_neg hb]
        refine ⟨g1, fun k => ?_⟩
        rw [look_cons (l := ps)]
        by_cases h : p.key = k
        · subst h
          have hb' : inB lo hi p.key = false := by simpa using hb
          rw [if_pos rfl, low _ (Int.le_refl _), hlt _ (Int.le_refl _), hb']; rfl
        · rw [if_neg h, g2]
    · rw [if_neg h1]
      by_cases h2 : p.key = t.key
      · rw [if_pos h2]
        obtain ⟨g1, g2⟩ := hf ps hp2
        refine ⟨srt_cons_of_look g1 fun k hk => ?_, fun k => ?_⟩
        · rw [g2, look_lt ht (by simpa [h2] using hk), look_lt hp hk]; rfl
        · rw [look_cons, look_cons (l := ps), look_cons (l := ts)]
          by_cases h : p.key = k
          · rw [if_pos h, if_pos h, if_pos (by omega), h2]; rfl
          · rw [if_neg h, if_neg h, if_neg (by omega), g2]
      · rw [if_neg h2]
        obtain ⟨g1, g2⟩ := hf (p :: ps) hp
        have hlp : ∀ k, k ≤ t.key → look Pr.key (p :: ps) k = none := fun k hk => by
          rw [look_cons, if_neg (by omega)]
          exact look_lt hp (by omega)
        refine ⟨srt_cons_of_look g1 fun k hk => ?_, fun k => ?_⟩
        · rw [g2, look_lt ht hk, hlp k hk]; rfl
        · rw [look_cons, look_cons (l := ts)]
          by_cases h : t.key = k
          · rw [if_pos h, if_pos h, hlp k (by omega)]; rfl
          · rw [if_neg h, if_neg h, g2]
theorem mv_spec (lo hi : Int) : ∀ ts ps, Srt Pr.key ts → Srt Pr.key ps → MvSpec lo hi ts ps (mv lo hi ts ps)
  | [], ps, _, hp => mv_nil_spec lo hi ps hp
  | t :: ts, ps, ht, hp => mvIn_spec lo hi t ts (mv lo hi ts) ht ps hp fun ps' hp' => mv_spec lo hi ts ps' (srt_cons.1 ht).2 hp'

/-- The reference's way: the changes from the map to the map behind the move. -/
theorem btw_spec {lo hi : Int} {ts ps q : List Pr} {ks : List Int} (hk : Inc ks) (hks : ∀ k, k ∈ ks ↔ (inB lo hi k = true ∧ look Pr.key ps k ≠ none) ∨ look Pr.key ts k ≠ none)
    (hq : ∀ k, look Pr.key q k = match look Pr.key ts k with | some t => some t | none => if inB lo hi k = true then none else look Pr.key ps k) : MvSpec lo hi ts ps (btw ps q ks) := by
  refine ⟨srt_btw ps q hk, fun k => ?_⟩
  rw [look_btw]
  have h1 := hks k
  have h2 := hq k
  rcases ht : look Pr.key ts k with _ | t
  · rw [ht] at h1 h2
    rcases hb : inB lo hi k with _ | _
    · rw [hb] at h1
      rw [if_neg (fun h => by rcases h1.1 h with ⟨h, _⟩ | h; · cases h
                              · exact h rfl)]
      rcases look Pr.key ps k with _ | p <;> rfl
    · rw [hb] at h1 h2
      rcases hp : look Pr.key ps k with _ | p
      · rw [hp] at h1
        rw [if_neg (fun h => by rcases h1.1 h with ⟨_, h⟩ | h; · exact h rfl
                                · exact h rfl)]
        rfl
      · rw [if_pos (h1.2 (.inl ⟨rfl, by rw [hp]; simp⟩))]
        have := (look_some hp).2
        simp only [btwC, h2, hp, if_true, chAt, delC, this, val0]
        rfl
  · have htk := (look_some ht).2
    rw [ht] at h1 h2
    rw [if_pos (h1.2 (.inr (by simp)))]
    rcases hp : look Pr.key ps k with _ | p <;> simp only [btwC, h2, hp, chAt, val0, htk] <;> rfl

/-! ### The plan of moving is a plan that fits, and leads to the map behind the move -/
theorem chAt_good {x y : Option Pr} {b : Bool} {c : Chg} (h : chAt x y b = some c) : GoodC c ∧ FitsAt y c := by
  rcases x with _ | t <;> rcases y with _ | p <;> rcases b with _ | _ <;> simp only [chAt] at h <;> cases h
  all_goals exact ⟨⟨by simp [delC], by simp [delC], by simp [delC]⟩, rfl, rfl⟩
theorem mv_plan {lo hi : Int} {ts ps : List Pr} {r : List Chg} (h : MvSpec lo hi ts ps r) : Plan r ∧ Fits ps r := by
  have key : ∀ c ∈ r, GoodC c ∧ FitsAt (look Pr.key ps c.key) c := fun c hc => chAt_good (x := look Pr.key ts c.key) (b := inB lo hi c.key) (by rw [← h.2, look_mem h.1 hc])
  exact ⟨plan_iff.2 ⟨fun c hc => (key c hc).1, h.1⟩, fun c hc => (key c hc).2⟩
theorem mv_after {lo hi : Int} {ts ps : List Pr} {r : List Chg} (h : MvSpec lo hi ts ps r) (k : Int) :
    after ps r k = match look Pr.key ts k with | some t => some t | none => if inB lo hi k = true then none else look Pr.key ps k := by
  have h2 := h.2 k
  rcases ht : look Pr.key ts k with _ | t
  · rw [ht] at h2
    rcases hb : inB lo hi k with _ | _
    · rw [hb] at h2
      have : look Chg.key r k = none := by rw [h2]; rcases look Pr.key ps k with _ | p <;> rfl
      rw [after_none this]; rfl
    · rw [hb] at h2
      rcases hp : look Pr.key ps k with _ | p
      · rw [hp] at h2
        rw [after_none (by rw [h2]; rfl), hp]; rfl
      · rw [hp] at h2
        rw [after_some (by rw [h2]; rfl)]; rfl
  · have htk := (look_some ht).2
    rw [ht] at h2
    rcases hp : look Pr.key ps k with _ | p
    · rw [hp] at h2
      rw [after_some (by rw [h2]; rfl)]; rfl
    · rw [hp] at h2
      rw [after_some (by rw [h2]; rfl)]; rfl
end Go.Proofs.Ytfghkmhabpagkaa
