/- Changes applied to pairs, in plain Lean: the program's way, and what it is by keys. -/
import Derived.Test.YtfghkmhabpagkaaThenM
import Derived.Test.YtfghkmhabpagkaaInv
namespace Go.Proofs.Ytfghkmhabpagkaa
open Go

/-- What a key holds after the changes. -/
def after (ps : List Pr) (l : List Chg) (k : Int) : Option Pr :=
  match look Chg.key l k with
  | none => look Pr.key ps k
  | some c => if c.is = true then some ⟨c.key, c.new⟩ else none
theorem after_none {ps : List Pr} {l : List Chg} {k : Int} (h : look Chg.key l k = none) : after ps l k = look Pr.key ps k := by unfold after; rw [h]
theorem after_some {ps : List Pr} {l : List Chg} {k : Int} {c : Chg} (h : look Chg.key l k = some c) : after ps l k = if c.is = true then some ⟨c.key, c.new⟩ else none := by unfold after; rw [h]
/-- The change says what is there. -/
def FitsAt (x : Option Pr) (c : Chg) : Prop :=
  match x with
  | none => c.was = false ∧ c.old = 0
  | some p => c.was = true ∧ c.old = p.val
/-- The changes say what is there. -/
def Fits (ps : List Pr) (l : List Chg) : Prop := ∀ c ∈ l, FitsAt (look Pr.key ps c.key) c
def putC (c : Chg) (r : List Pr) : List Pr := if c.is = true then ⟨c.key, c.new⟩ :: r else r

def appIn (c : Chg) (f : List Pr → Option (List Pr)) : List Pr → Option (List Pr)
  | [] => if c.was = true then none else (f []).map (putC c)
  | p :: ps =>
    if p.key < c.key then (appIn c f ps).map (p :: ·)
    else if p.key = c.key then (if c.was = true ∧ p.val = c.old then (f ps).map (putC c) else none)
    else if c.was = true then none else (f (p :: ps)).map (putC c)
/-- What plan.Apply computes of pairs and a plan. -/
def app : List Chg → List Pr → Option (List Pr)
  | [] => some
  | c :: l => appIn c (app l)

def AppSpec (ps : List Pr) (l : List Chg) (t : Option (List Pr)) : Prop :=
  (∃ r, t = some r ∧ Srt Pr.key r ∧ (∀ k, look Pr.key r k = after ps l k) ∧ Fits ps l) ∨ (t = none ∧ ¬ Fits ps l)
theorem appSpec_unique {ps : List Pr} {l : List Chg} {t u : Option (List Pr)} (h1 : AppSpec ps l t) (h2 : AppSpec ps l u) : t = u := by
  rcases h1 with ⟨r, rfl, hs, hl, hf⟩ | ⟨rfl, hf⟩
  · rcases h2 with ⟨q, rfl, hs2, hl2, _⟩ | ⟨_, hn⟩
    · rw [srt_ext hs hs2 fun k => (hl k).trans (hl2 k).symm]
    · exact absurd hf hn
  · rcases h2 with ⟨q, _, _, _, hn⟩ | ⟨rfl, _⟩
    · exact absurd hn hf
    · rfl

/-- One change put at the head of what its followers make. -/
theorem put_ok {c : Chg} {l : List Chg} {ps ps' r : List Pr} (hc : Srt Chg.key (c :: l)) (hs : Srt Pr.key r) (hl : ∀ k, look Pr.key r k = after ps' l k)
    (h0 : ∀ k, k ≤ c.key → look Pr.key ps' k = none) (hk : ∀ k, k ≠ c.key → look Pr.key ps k = look Pr.key ps' k) :
    Srt Pr.key (putC c r) ∧ ∀ k, look Pr.key (putC c r) k = after ps (c :: l) k := by
  have low : ∀ k, k ≤ c.key → look Pr.key r k = none := fun k h => by
    rw [hl, after_none (look_lt hc h), h0 k h]
  have at_ : ∀ k, k ≠ c.key → look Pr.key r k = after ps (c :: l) k := fun k h => by
    rw [hl]
    unfold after
    rw [look_cons, if_neg (Ne.symm h), hk k h]
  unfold putC
  by_cases hi : c.is = true
  · rw [if_pos hi]
    refine ⟨srt_cons_of_look hs low, fun k => ?_⟩
    rw [look_cons]
    by_cases h : c.key = k
    · rw [if_pos h, after_some (c := c) (by rw [look_cons, if_pos h]), if_pos hi]
    · rw [if_neg h, at_ k (Ne.symm h)]
  · rw [if_neg hi]
    refine ⟨hs, fun k => ?_⟩
    by_cases h : c.key = k
    · rw [after_some (c := c) (by rw [look_cons, if_pos h]), if_neg hi, low k (by omega)]
    · rw [at_ k (Ne.symm h)]

theorem fits_cons {ps : List Pr} {c : Chg} {l : List Chg} : Fits ps (c :: l) ↔ FitsAt (look Pr.key ps c.key) c ∧ Fits ps l := by
  unfold Fits
  simp
theorem fits_of {ps ps' : List Pr} {c : Chg} {l : List Chg} (hc : Srt Chg.key (c :: l)) (hk : ∀ k, c.key < k → look Pr.key ps k = look Pr.key ps' k) : Fits ps l ↔ Fits ps' l := by
  have : ∀ d ∈ l, look Pr.key ps d.key = look Pr.key ps' d.key := fun d hd => hk _ ((srt_cons.1 hc).1 d hd)
  unfold Fits
  constructor
  · intro h d hd
    rw [← this d hd]
    exact h d hd
  · intro h d hd
    rw [this d hd]
    exact h d hd

theorem appIn_spec (c : Chg) (l : List Chg) (f : List Pr → Option (List Pr)) (hc : Srt Chg.key (c :: l)) (hg : GoodC c) :
    ∀ ps, Srt Pr.key ps → (∀ ps', Srt Pr.key ps' → AppSpec ps' l (f ps')) → AppSpec ps (c :: l) (appIn c f ps)
  | [], hp, hf => by
    unfold appIn
    by_cases hw : c.was = true
    · rw [if_pos hw]
      refine .inr ⟨rfl, fun h => ?_⟩
      have := (fits_cons.1 h).1
      rw [look_nil] at this
      have h0 : c.was = false := this.1
      rw [hw] at h0
      cases h0
    · rw [if_neg hw]
      have hw' : c.was = false := by simpa using hw
      have hfit : FitsAt (look Pr.key [] c.key) c := by
        rw [look_nil]
        exact ⟨hw', by rcases hg.2.1 with h | h; · exact absurd h hw
                       · exact h⟩
      rcases hf [] srt_nil with ⟨r, hr, hs, hl, hn⟩ | ⟨hr, hn⟩
      · rw [hr]
        obtain ⟨h1, h2⟩ := put_ok (ps := []) (ps' := []) hc hs hl (fun k _ => look_nil k) (fun k _ => rfl)
        exact .inl ⟨_, rfl, h1, h2, fits_cons.2 ⟨hfit, hn⟩⟩
      · rw [hr]
        exact .inr ⟨rfl, fun h => hn (fits_cons.1 h).2⟩
  | p :: ps, hp, hf => by
    unfold appIn
    have hp2 := (srt_cons.1 hp).2
    by_cases h1 : p.key < c.key
    · rw [if_pos h1]
      have hlc : ∀ k, k ≤ p.key → look Chg.key (c :: l) k = none := fun k hk => by
        rw [look_cons, if_neg (by omega)]
        exact look_lt hc (by omega)
      have hfe : Fits (p :: ps) (c :: l) ↔ Fits ps (c :: l) := by
        unfold Fits
        have : ∀ d ∈ c :: l, look Pr.key (p :: ps) d.key = look Pr.key ps d.key := fun d hd => by
          rw [look_cons, if_neg]
          intro h
          have := hlc d.key (by omega)
          exact absurd rfl (look_none.1 this d hd)
        constructor
        · intro h d hd
          rw [← this d hd]
          exact h d hd
        · intro h d hd
          rw [this d hd]
          exact h d hd
      rcases appIn_spec c l f hc hg ps hp2 hf with ⟨r, hr, hs, hl, hn⟩ | ⟨hr, hn⟩
      · rw [hr]
        refine .inl ⟨p :: r, rfl, srt_cons_of_look hs fun k hk => ?_, fun k => ?_, hfe.2 hn⟩
        · rw [hl, after_none (hlc k hk), look_lt hp hk]
        · rw [look_cons]
          by_cases h : p.key = k
          · rw [if_pos h, after_none (hlc k (by omega)), look_cons, if_pos h]
          · rw [if_neg h, hl]
            unfold after
            rw [look_cons (l := ps), if_neg h]
      · rw [hr]
        exact .inr ⟨rfl, fun h => hn (hfe.1 h)⟩
    · rw [if_neg h1]
      by_cases h2 : p.key = c.key
      · rw [if_pos h2]
        have hlp : look Pr.key (p :: ps) c.key = some p := by rw [look_cons, if_pos h2]
        by_cases h3 : c.was = true ∧ p.val = c.old
        · rw [if_pos h3]
          have hfit : FitsAt (look Pr.key (p :: ps) c.key) c := by rw [hlp]; exact ⟨h3.1, h3.2.symm⟩
          have hfl : Fits (p :: ps) l ↔ Fits ps l := fits_of hc fun k hk => by rw [look_cons, if_neg (by omega)]
          rcases hf ps hp2 with ⟨r, hr, hs, hl, hn⟩ | ⟨hr, hn⟩
          · rw [hr]
            obtain ⟨g1, g2⟩ := put_ok (ps := p :: ps) (ps' := ps) hc hs hl (fun k hk => look_lt hp (by omega)) (fun k hk => by rw [look_cons, if_neg (by omega)])
            exact .inl ⟨_, rfl, g1, g2, fits_cons.2 ⟨hfit, hfl.2 hn⟩⟩
          · rw [hr]
            exact .inr ⟨rfl, fun h => hn (hfl.1 (fits_cons.1 h).2)⟩
        · rw [if_neg h3]
          refine .inr ⟨rfl, fun h => h3 ?_⟩
          have := (fits_cons.1 h).1
          rw [hlp] at this
          exact ⟨this.1, this.2.symm⟩
      · rw [if_neg h2]
        have hlp : ∀ k, k ≤ c.key → look Pr.key (p :: ps) k = none := fun k hk => by
          rw [look_cons, if_neg (by omega)]
          exact look_lt hp (by omega)
        by_cases hw : c.was = true
        · rw [if_pos hw]
          refine .inr ⟨rfl, fun h => ?_⟩
          have := (fits_cons.1 h).1
          rw [hlp _ (by omega)] at this
          have h0 : c.was = false := this.1
          rw [hw] at h0
          cases h0
        · rw [if_neg hw]
          have hw' : c.was = false := by simpa using hw
          have hfit : FitsAt (look Pr.key (p :: ps) c.key) c := by
            rw [hlp _ (by omega)]
            exact ⟨hw', by rcases hg.2.1 with h | h; · exact absurd h hw
                           · exact h⟩
          rcases hf (p :: ps) hp with ⟨r, hr, hs, hl, hn⟩ | ⟨hr, hn⟩
          · rw [hr]
            obtain ⟨g1, g2⟩ := put_ok (ps := p :: ps) (ps' := p :: ps) hc hs hl hlp (fun k _ => rfl)
            exact .inl ⟨_, rfl, g1, g2, fits_cons.2 ⟨hfit, hn⟩⟩
          · rw [hr]
            exact .inr ⟨rfl, fun h => hn (fits_cons.1 h).2⟩

theorem app_spec_ : ∀ l ps, (∀ c ∈ l, GoodC c) → Srt Chg.key l → Srt Pr.key ps → AppSpec ps l (app l ps)
  | [], ps, _, _, hp => .inl ⟨ps, rfl, hp, fun k => by rw [after_none (look_nil k)], fun c hc => by cases hc⟩
  | c :: l, ps, hg, hc, hp => appIn_spec c l (app l) hc (hg c (List.mem_cons_self ..)) ps hp fun ps' hp' => app_spec_ l ps' (fun d hd => hg d (List.mem_cons_of_mem _ hd)) (srt_cons.1 hc).2 hp'
theorem app_spec {l : List Chg} {ps : List Pr} (hl : Plan l) (hp : Srt Pr.key ps) : AppSpec ps l (app l ps) := by
  obtain ⟨g, s⟩ := plan_iff.1 hl
  exact app_spec_ l ps g s hp
theorem app_some {l : List Chg} {ps r : List Pr} (hl : Plan l) (hp : Srt Pr.key ps) (h : app l ps = some r) : Srt Pr.key r ∧ (∀ k, look Pr.key r k = after ps l k) ∧ Fits ps l := by
  rcases app_spec hl hp with ⟨q, hq, h1, h2, h3⟩ | ⟨hn, _⟩
  · obtain rfl := Option.some.inj (h.symm.trans hq)
    exact ⟨h1, h2, h3⟩
  · rw [h] at hn; cases hn
theorem app_of {l : List Chg} {ps r : List Pr} (hl : Plan l) (hp : Srt Pr.key ps) (h1 : Srt Pr.key r) (h2 : ∀ k, look Pr.key r k = after ps l k) (h3 : Fits ps l) : app l ps = some r :=
  appSpec_unique (app_spec hl hp) (.inl ⟨r, rfl, h1, h2, h3⟩)

/-! ### How long the result is -/
/-- The numbers of the keys that appear, that disappear, and that stay. -/
def born (l : List Chg) : Nat := (l.filter fun c => !c.was).length
def gone (l : List Chg) : Nat := (l.filter fun c => c.was && !c.is).length
def swapped (l : List Chg) : Nat := (l.filter fun c => c.was && c.is).length
theorem counts_all (l : List Chg) : born l + gone l + swapped l = l.length := by
  induction l with
  | nil => rfl
  | cons c l ih =>
    unfold born gone swapped at ih ⊢
    obtain ⟨key, was, old, is, new⟩ := c
    cases was <;> cases is <;> simp at ih ⊢ <;> omega
theorem putC_len (c : Chg) (r : List Pr) : (putC c r).length = r.length + (if c.is = true then 1 else 0) := by
  unfold putC
  split <;> simp
theorem counts_cons (c : Chg) (l : List Chg) : born (c :: l) = born l + (if c.was = true then 0 else 1) ∧ gone (c :: l) = gone l + (if c.was = true ∧ c.is = false then 1 else 0) := by
  unfold born gone
  obtain ⟨key, was, old, is, new⟩ := c
  cases was <;> cases is <;> simp
theorem appIn_len (c : Chg) (l : List Chg) (f : List Pr → Option (List Pr)) (hg : GoodC c) (hf : ∀ ps r, f ps = some r → r.length + gone l = ps.length + born l) :
    ∀ ps r, appIn c f ps = some r → r.length + gone (c :: l) = ps.length + born (c :: l)
  | [], r, h => by
    unfold appIn at h
    split at h
    · cases h
    · rename_i hw
      rcases hq : f [] with _ | q
      · rw [hq] at h; cases h
      · rw [hq] at h
        obtain rfl := Option.some.inj h
        have h1 := hf [] q hq
        have hi : c.is = true := by rcases hg.1 with h | h; · exact absurd h hw
                                    · exact h
        rw [putC_len, (counts_cons c l).1, (counts_cons c l).2]
        simp [hw, hi] at h1 ⊢
        omega
  | p :: ps, r, h => by
    unfold appIn at h
    split at h
    · rcases hq : appIn c f ps with _ | q
      · rw [hq] at h; cases h
      · rw [hq] at h
        obtain rfl := Option.some.inj h
        have h1 := appIn_len c l f hg hf ps q hq
        simp only [List.length_cons]
        omega
    · split at h
      · split at h
        · rename_i hw
          rcases hq : f ps with _ | q
          · rw [hq] at h; cases h
          · rw [hq] at h
            obtain rfl := Option.some.inj h
            have h1 := hf ps q hq
            rw [putC_len, (counts_cons c l).1, (counts_cons c l).2]
            rcases hi : c.is with _ | _ <;> simp [hw.1] <;> omega
        · cases h
      · split at h
        · cases h
        · rename_i hw
          rcases hq : f (p :: ps) with _ | q
          · rw [hq] at h; cases h
          · rw [hq] at h
            obtain rfl := Option.some.inj h
            have h1 := hf (p :: ps) q hq
            have hi : c.is = true := by rcases hg.1 with h | h; · exact absurd h hw
                                        · exact h
            rw [putC_len, (counts_cons c l).1, (counts_cons c l).2]
            simp [hw, hi] at h1 ⊢
            omega
theorem app_len : ∀ l, (∀ c ∈ l, GoodC c) → ∀ ps r, app l ps = some r → r.length + gone l = ps.length + born l
  | [], _, ps, r, h => by
    obtain rfl := Option.some.inj h
    rfl
  | c :: l, hg, ps, r, h => appIn_len c l (app l) (hg c (List.mem_cons_self ..)) (fun ps r h => app_len l (fun d hd => hg d (List.mem_cons_of_mem _ hd)) ps r h) ps r h

/-! ### The inverted plan -/
theorem good_inv {c : Chg} (h : GoodC c) : GoodC (invC c) := ⟨h.1.symm, h.2.2, h.2.1⟩
theorem plan_inv {l : List Chg} (h : Plan l) : Plan (inv l) := by
  obtain ⟨g, s⟩ := plan_iff.1 h
  refine plan_iff.2 ⟨fun c hc => ?_, ?_⟩
  · obtain ⟨d, hd, rfl⟩ := List.mem_map.1 hc
    exact good_inv (g d hd)
  · exact List.pairwise_map.2 s
theorem inv_inv (l : List Chg) : inv (inv l) = l := by
  unfold inv
  rw [List.map_map]
  exact List.map_id _
theorem look_inv (l : List Chg) (k : Int) : look Chg.key (inv l) k = (look Chg.key l k).map invC := by
  induction l with
  | nil => rfl
  | cons c l ih =>
    show look Chg.key (invC c :: inv l) k = _
    rw [look_cons, look_cons]
    by_cases h : c.key = k
    · rw [if_pos h, if_pos (show (invC c).key = k from h)]; rfl
    · rw [if_neg h, if_neg (show ¬ (invC c).key = k from h), ih]
theorem born_inv (l : List Chg) (hg : ∀ c ∈ l, GoodC c) : born (inv l) = gone l ∧ gone (inv l) = born l ∧ swapped (inv l) = swapped l := by
  induction l with
  | nil => exact ⟨rfl, rfl, rfl⟩
  | cons c l ih =>
    obtain ⟨h1, h2, h3⟩ := ih fun d hd => hg d (List.mem_cons_of_mem _ hd)
    have hc := (hg c (List.mem_cons_self ..)).1
    unfold born gone inv at h1 h2
    unfold swapped inv at h3
    unfold born gone swapped inv
    obtain ⟨key, was, old, is, new⟩ := c
    cases was <;> cases is <;> simp [invC] at h1 h2 h3 hc ⊢ <;> omega
/-- THE INVERTED PLAN LEADS BACK. -/
theorem app_inv {l : List Chg} {ps r : List Pr} (hl : Plan l) (hp : Srt Pr.key ps) (h : app l ps = some r) : app (inv l) r = some ps := by
  obtain ⟨h1, h2, h3⟩ := app_some hl hp h
  have hs := (plan_iff.1 hl).2
  refine app_of (plan_inv hl) h1 hp (fun k => ?_) (fun d hd => ?_)
  · rcases hk : look Chg.key l k with _ | c
    · rw [after_none (by rw [look_inv, hk]; rfl), h2, after_none hk]
    · rw [after_some (c := invC c) (by rw [look_inv, hk]; rfl)]
      obtain ⟨hm, rfl⟩ := look_some hk
      have hf := h3 c hm
      rcases hx : look Pr.key ps c.key with _ | p
      · rw [hx] at hf
        simp [invC, hf.1]
      · rw [hx] at hf
        have hpk := (look_some hx).2
        simp only [invC, hf.1, if_true]
        rw [hf.2, ← hpk]
  · obtain ⟨c, hc, rfl⟩ := List.mem_map.1 hd
    have hk := look_mem hs hc
    show FitsAt (look Pr.key r c.key) (invC c)
    rw [h2, after_some hk]
    rcases hi : c.is with _ | _
    · have := (plan_iff.1 hl).1 c hc
      exact ⟨hi, by rcases this.2.2 with h | h; · rw [hi] at h; cases h
                    · exact h⟩
    · exact ⟨hi, rfl⟩
end Go.Proofs.Ytfghkmhabpagkaa
