/- Plain: places in a sorted list of pairs. -/
import Derived.Test.YtfghkmhabpagkaaOFind
namespace Go.Proofs.Ytfghkmhabpagkaa
open Go Go.RowKit
set_option linter.unusedVariables false

theorem At.tail {q : Pr} {l : List Pr} {k : Int} {r : Nat} (h : At (q :: l) k (r + 1)) : q.key < k ∧ At l k r :=
  ⟨h.2.1 0 q rfl (by omega), ⟨by have := h.1; simp at this; omega, fun t p ht h1 => h.2.1 (t + 1) p ht (by omega), fun t p ht h1 => h.2.2 (t + 1) p ht (by omega)⟩⟩
theorem At.head {q : Pr} {l : List Pr} {k : Int} (h : At (q :: l) k 0) : k ≤ q.key := h.2.2 0 q rfl (by omega)
theorem setP_had (p : Pr) : ∀ (l : List Pr) (r : Nat), Srt Pr.key l → At l p.key r → (∃ q, l[r]? = some q ∧ q.key = p.key) → setP p l = l.set r p
  | [], r, _, _, h => by obtain ⟨q, h, _⟩ := h; simp at h
  | x :: l, 0, hs, ha, h => by
    obtain ⟨q, h, he⟩ := h
    have hx : x = q := by simpa using h
    subst hx
    have hn : ¬ x.key < p.key := by omega
    have hf : l.filter (fun x => x.key != p.key) = l := List.filter_eq_self.2 fun a ha => by
      have := (srt_cons.1 hs).1 a ha
      simp
      omega
    rw [setP, if_neg hn]
    simp [he, hf]
  | x :: l, r + 1, hs, ha, h => by
    obtain ⟨h1, h2⟩ := ha.tail
    rw [setP, if_pos h1, setP_had p l r (srt_cons.1 hs).2 h2 (by simpa using h)]
    rfl
theorem setP_new (p : Pr) : ∀ (l : List Pr) (r : Nat), Srt Pr.key l → At l p.key r → (∀ q, l[r]? = some q → q.key ≠ p.key) → setP p l = insAt l r p
  | [], r, _, ha, _ => by
    have : r = 0 := by have := ha.1; simpa using this
    subst this
    rfl
  | x :: l, 0, hs, ha, h => by
    have hx := ha.head
    have hne := h x rfl
    have hn : ¬ x.key < p.key := by omega
    have hf : (x :: l).filter (fun x => x.key != p.key) = x :: l := List.filter_eq_self.2 fun a ha => by
      rcases List.mem_cons.1 ha with rfl | ha
      · simpa using hne
      · have := (srt_cons.1 hs).1 a ha
        simp
        omega
    rw [setP, if_neg hn, hf]
    rfl
  | x :: l, r + 1, hs, ha, h => by
    obtain ⟨h1, h2⟩ := ha.tail
    rw [setP, if_pos h1, setP_new p l r (srt_cons.1 hs).2 h2 (fun q hq => h q (by simpa using hq))]
    rfl

theorem prs_set : ∀ (l : List Pr) (r : Nat) (q : Pr) (v : Int), l[r]? = some q → (prs l).set (r * 2 + 1) (.int .u64 v) = prs (l.set r ⟨q.key, v⟩)
  | [], r, q, v, h => by simp at h
  | x :: l, 0, q, v, h => by
    have hx : x = q := by simpa using h
    subst hx
    rfl
  | x :: l, r + 1, q, v, h => by
    have ih := prs_set l r q v (by simpa using h)
    show (.int .u64 x.key :: .int .u64 x.val :: prs l).set ((r + 1) * 2 + 1) _ = .int .u64 x.key :: .int .u64 x.val :: prs (l.set r _)
    rw [show (r + 1) * 2 + 1 = (r * 2 + 1) + 1 + 1 by omega, List.set_cons_succ, List.set_cons_succ, ih]

section
variable {l : List Pr} {f : Pr → Bool} {a T : Nat}
theorem filter_parts (haT : a ≤ T) (h1 : ∀ t p, l[t]? = some p → t < a → f p = false) (h2 : ∀ t p, l[t]? = some p → a ≤ t → t < T → f p = true) (h3 : ∀ t p, l[t]? = some p → T ≤ t → f p = false) :
    l.filter f = (l.drop a).take (T - a) := by
  have hl : l = l.take a ++ ((l.drop a).take (T - a) ++ l.drop T) := by
    have e : (l.drop a).drop (T - a) = l.drop T := by rw [List.drop_drop]; congr 1; omega
    rw [← e, List.take_append_drop, List.take_append_drop]
  have e1 : (l.take a).filter f = [] := List.filter_eq_nil_iff.2 fun p hp => by
    obtain ⟨t, ht⟩ := List.getElem?_of_mem hp
    rw [List.getElem?_take] at ht
    split at ht
    · rw [h1 t p ht (by omega)]; simp
    · cases ht
  have e2 : ((l.drop a).take (T - a)).filter f = (l.drop a).take (T - a) := List.filter_eq_self.2 fun p hp => by
    obtain ⟨t, ht⟩ := List.getElem?_of_mem hp
    rw [List.getElem?_take] at ht
    split at ht
    · rw [List.getElem?_drop] at ht
      exact h2 _ p ht (by omega) (by omega)
    · cases ht
  have e3 : (l.drop T).filter f = [] := List.filter_eq_nil_iff.2 fun p hp => by
    obtain ⟨t, ht⟩ := List.getElem?_of_mem hp
    rw [List.getElem?_drop] at ht
    rw [h3 _ p ht (by omega)]; simp
  conv => lhs; rw [hl]
  rw [List.filter_append, List.filter_append, e1, e2, e3]
  simp
theorem filter_parts_not (haT : a ≤ T) (h1 : ∀ t p, l[t]? = some p → t < a → f p = false) (h2 : ∀ t p, l[t]? = some p → a ≤ t → t < T → f p = true) (h3 : ∀ t p, l[t]? = some p → T ≤ t → f p = false) :
    l.filter (fun p => !f p) = cutAt l a T := by
  have hl : l = l.take a ++ ((l.drop a).take (T - a) ++ l.drop T) := by
    have e : (l.drop a).drop (T - a) = l.drop T := by rw [List.drop_drop]; congr 1; omega
    rw [← e, List.take_append_drop, List.take_append_drop]
  have e1 : (l.take a).filter (fun p => !f p) = l.take a := List.filter_eq_self.2 fun p hp => by
    obtain ⟨t, ht⟩ := List.getElem?_of_mem hp
    rw [List.getElem?_take] at ht
    split at ht
    · rw [h1 t p ht (by omega)]; rfl
    · cases ht
  have e2 : ((l.drop a).take (T - a)).filter (fun p => !f p) = [] := List.filter_eq_nil_iff.2 fun p hp => by
    obtain ⟨t, ht⟩ := List.getElem?_of_mem hp
    rw [List.getElem?_take] at ht
    split at ht
    · rw [List.getElem?_drop] at ht
      rw [h2 _ p ht (by omega) (by omega)]; simp
    · cases ht
  have e3 : (l.drop T).filter (fun p => !f p) = l.drop T := List.filter_eq_self.2 fun p hp => by
    obtain ⟨t, ht⟩ := List.getElem?_of_mem hp
    rw [List.getElem?_drop] at ht
    rw [h3 _ p ht (by omega)]; rfl
  conv => lhs; rw [hl]
  rw [List.filter_append, List.filter_append, e1, e2, e3]
  simp [cutAt]
end

/-- Where a range of keys begins and ends. -/
def Ends (l : List Pr) (lo hi : Int) (a T : Nat) : Prop := a ≤ T ∧ T ≤ l.length ∧ (l.drop a).take (T - a) = inR lo hi l ∧ cutAt l a T = outR lo hi l
theorem ends_of {l : List Pr} (hs : Srt Pr.key l) {lo hi : Int} (hlh : lo ≤ hi) {a b : Nat} (ha : At l lo a) (hb : At l hi b) : Ends l lo hi a (if (look Pr.key l hi).isSome = true then b + 1 else b) := by
  obtain ⟨T, hT⟩ : ∃ T, T = if (look Pr.key l hi).isSome = true then b + 1 else b := ⟨_, rfl⟩
  rw [← hT]
  have hnext : ∀ (t t' : Nat) (p q : Pr), l[t]? = some p → l[t']? = some q → t < t' → p.key < q.key := fun t t' p q h1 h2 h => by
    obtain ⟨hi', e1⟩ := List.getElem?_eq_some_iff.1 h1
    obtain ⟨hj', e2⟩ := List.getElem?_eq_some_iff.1 h2
    rw [← e1, ← e2]
    exact List.pairwise_iff_getElem.1 hs t t' hi' hj' h
  have hTT : T ≤ l.length ∧ (∀ t p, l[t]? = some p → t < T → p.key ≤ hi) ∧ (∀ t p, l[t]? = some p → T ≤ t → hi < p.key) := by
    rcases Nat.lt_or_eq_of_le hb.1 with hlt | heq
    · obtain ⟨q, hq⟩ : ∃ q, l[b]? = some q := ⟨_, List.getElem?_eq_getElem hlt⟩
      have hlk := at_look hs hb hq
      by_cases he : q.key = hi
      · rw [hlk, if_pos he] at hT
        have hT : T = b + 1 := by simpa using hT
        subst hT
        refine ⟨hlt, fun t p ht h => ?_, fun t p ht h => ?_⟩
        · rcases Nat.lt_or_eq_of_le (Nat.le_of_lt_succ h) with h1 | h1
          · have := hb.2.1 t p ht h1; omega
          · rw [h1, hq] at ht; obtain rfl := Option.some.inj ht; omega
        · have := hnext b t q p hq ht (by omega); omega
      · rw [hlk, if_neg he] at hT
        have hT : T = b := by simpa using hT
        subst hT
        have h0 := hb.2.2 T q hq (Nat.le_refl _)
        refine ⟨hb.1, fun t p ht h => by have := hb.2.1 t p ht h; omega, fun t p ht h => ?_⟩
        rcases Nat.lt_or_eq_of_le h with h1 | h1
        · have := hnext T t q p hq ht h1; omega
        · rw [← h1, hq] at ht; obtain rfl := Option.some.inj ht; omega
    · rw [at_end (heq ▸ hb)] at hT
      have hT : T = b := by simpa using hT
      subst hT
      exact ⟨hb.1, fun t p ht h => by have := hb.2.1 t p ht h; omega, fun t p ht h => by have := (List.getElem?_eq_some_iff.1 ht).1; omega⟩
  obtain ⟨hTl, hT1, hT2⟩ := hTT
  have haT : a ≤ T := by
    rcases Nat.lt_or_ge T a with h | h
    · have h1 := ha.1
      obtain ⟨q, hq⟩ : ∃ q, l[T]? = some q := ⟨_, List.getElem?_eq_getElem (by omega)⟩
      have h2 := hT2 T q hq (Nat.le_refl _)
      have h3 := ha.2.1 T q hq h
      omega
    · exact h
  have f1 : ∀ t p, l[t]? = some p → t < a → inB lo hi p.key = false := fun t p ht h => by have := ha.2.1 t p ht h; simp [inB]; omega
  have f2 : ∀ t p, l[t]? = some p → a ≤ t → t < T → inB lo hi p.key = true := fun t p ht h h' => by have := ha.2.2 t p ht h; have := hT1 t p ht h'; simp [inB]; omega
  have f3 : ∀ t p, l[t]? = some p → T ≤ t → inB lo hi p.key = false := fun t p ht h => by have := hT2 t p ht h; simp [inB]; omega
  exact ⟨haT, hTl, (filter_parts (f := fun p => inB lo hi p.key) haT f1 f2 f3).symm, (filter_parts_not (f := fun p => inB lo hi p.key) haT f1 f2 f3).symm⟩
end Go.Proofs.Ytfghkmhabpagkaa
