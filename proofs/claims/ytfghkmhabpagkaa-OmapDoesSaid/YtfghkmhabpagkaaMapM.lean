/- The reference's map as a list of pairs, in plain Lean. -/
import Derived.Test.YtfghkmhabpagkaaSorted
import Derived.Test.YtfghkmhabpagkaaDel
namespace Go.Proofs.Ytfghkmhabpagkaa
open Go

/-- What set makes of the pairs. -/
def setP (p : Pr) : List Pr → List Pr
  | [] => [p]
  | q :: l => if q.key < p.key then q :: setP p l else p :: (q :: l).filter (fun x => x.key != p.key)
/-- The pairs that a range leaves. -/
def outR (lo hi : Int) (l : List Pr) : List Pr := l.filter fun p => !inB lo hi p.key
def shP (by_ : Int) (p : Pr) : Pr := ⟨p.key + by_, p.val⟩

theorem look_filter {α : Type} {key : α → Int} (f : α → Bool) (g : Int → Bool) (hf : ∀ a, f a = g (key a)) (l : List α) (k : Int) : look key (l.filter f) k = if g k = true then look key l k else none := by
  induction l with
  | nil => simp [look_nil]
  | cons a l ih =>
    rw [List.filter_cons, look_cons]
    by_cases ha : f a = true
    · rw [if_pos ha, look_cons, ih]
      by_cases h : key a = k
      · rw [if_pos h, if_pos h, ← h, ← hf, if_pos ha]
      · rw [if_neg h, if_neg h]
    · rw [if_neg ha, ih]
      by_cases h : key a = k
      · rw [if_pos h, ← h, ← hf, if_neg ha, if_neg ha]
      · rw [if_neg h]
theorem srt_filter {α : Type} {key : α → Int} (f : α → Bool) {l : List α} (h : Srt key l) : Srt key (l.filter f) := List.Pairwise.filter f h
theorem look_in (lo hi : Int) (l : List Pr) (k : Int) : look Pr.key (inR lo hi l) k = if inB lo hi k = true then look Pr.key l k else none := look_filter _ (fun k => inB lo hi k) (fun _ => rfl) l k
theorem look_out (lo hi : Int) (l : List Pr) (k : Int) : look Pr.key (outR lo hi l) k = if inB lo hi k = true then none else look Pr.key l k := by
  rw [show look Pr.key (outR lo hi l) k = _ from look_filter _ (fun k => !inB lo hi k) (fun _ => rfl) l k]
  rcases inB lo hi k with _ | _ <;> rfl
theorem srt_in {lo hi : Int} {l : List Pr} (h : Srt Pr.key l) : Srt Pr.key (inR lo hi l) := srt_filter _ h
theorem srt_out {lo hi : Int} {l : List Pr} (h : Srt Pr.key l) : Srt Pr.key (outR lo hi l) := srt_filter _ h

theorem set_spec (p : Pr) : ∀ l, Srt Pr.key l → Srt Pr.key (setP p l) ∧ ∀ k, look Pr.key (setP p l) k = if p.key = k then some p else look Pr.key l k
  | [], _ => ⟨List.pairwise_singleton _ p, fun k => by unfold setP; rw [look_cons]⟩
  | q :: l, h => by
    obtain ⟨h1, h2⟩ := srt_cons.1 h
    unfold setP
    by_cases hlt : q.key < p.key
    · rw [if_pos hlt]
      obtain ⟨g1, g2⟩ := set_spec p l h2
      refine ⟨srt_cons_of_look g1 fun k hk => ?_, fun k => ?_⟩
      · rw [g2, if_neg (by omega), look_lt h hk]
      · rw [look_cons, g2, look_cons (l := l)]
        by_cases hk : p.key = k
        · rw [if_pos hk, if_pos hk, if_neg (by omega)]
        · rw [if_neg hk, if_neg hk]
    · rw [if_neg hlt]
      have lf : ∀ k, look Pr.key ((q :: l).filter (fun x => x.key != p.key)) k = if (k != p.key) = true then look Pr.key (q :: l) k else none := look_filter _ (fun k => k != p.key) (fun _ => rfl) _
      refine ⟨srt_cons_of_look (srt_filter _ h) fun k hk => ?_, fun k => ?_⟩
      · rw [lf]
        by_cases hk2 : k = p.key
        · subst hk2; simp
        · have : look Pr.key (q :: l) k = none := by
            rw [look_cons, if_neg (by omega)]
            exact look_lt h (by omega)
          rw [this]; simp
      · rw [look_cons, lf]
        by_cases hk : p.key = k
        · rw [if_pos hk, if_pos hk]
        · rw [if_neg hk, if_neg hk, if_pos (by simpa using fun e => hk e.symm)]
theorem set_len (p : Pr) : ∀ l, (setP p l).length ≤ l.length + 1
  | [] => by simp [setP]
  | q :: l => by
    unfold setP
    split
    · have := set_len p l
      simp; omega
    · have := List.length_filter_le (fun x : Pr => x.key != p.key) (q :: l)
      simp at this ⊢; omega

/-- The pairs ts put into the pairs l, one after the other. -/
def puts (l : List Pr) (ts : List Pr) : List Pr := ts.foldl (fun m t => setP t m) l
theorem puts_spec : ∀ ts l, Srt Pr.key ts → Srt Pr.key l → Srt Pr.key (puts l ts) ∧ ∀ k, look Pr.key (puts l ts) k = match look Pr.key ts k with | some t => some t | none => look Pr.key l k
  | [], l, _, h => ⟨h, fun k => rfl⟩
  | t :: ts, l, ht, h => by
    obtain ⟨g1, g2⟩ := set_spec t l h
    obtain ⟨e1, e2⟩ := puts_spec ts (setP t l) (srt_cons.1 ht).2 g1
    refine ⟨e1, fun k => ?_⟩
    show look Pr.key (puts (setP t l) ts) k = _
    rw [e2, look_cons]
    by_cases hk : t.key = k
    · rw [if_pos hk, look_lt ht (by omega), g2, if_pos hk]
    · rw [if_neg hk]
      rcases look Pr.key ts k with _ | u
      · show look Pr.key (setP t l) k = look Pr.key l k
        rw [g2, if_neg hk]
      · rfl
theorem puts_len : ∀ ts l, (puts l ts).length ≤ l.length + ts.length
  | [], l => by simp [puts]
  | t :: ts, l => by
    have h1 := puts_len ts (setP t l)
    have h2 := set_len t l
    show (puts (setP t l) ts).length ≤ _
    simp; omega
theorem puts_snoc (l ts : List Pr) (t : Pr) : puts l (ts ++ [t]) = setP t (puts l ts) := by simp [puts, List.foldl_append]
theorem look_sh (by_ : Int) (l : List Pr) (k : Int) : look Pr.key (l.map (shP by_)) k = (look Pr.key l (k - by_)).map (shP by_) := by
  induction l with
  | nil => rfl
  | cons p l ih =>
    show look Pr.key (shP by_ p :: l.map (shP by_)) k = _
    rw [look_cons, look_cons]
    by_cases h : p.key = k - by_
    · rw [if_pos h, if_pos (show (shP by_ p).key = k by show p.key + by_ = k; omega)]; rfl
    · rw [if_neg h, if_neg (show ¬ (shP by_ p).key = k by show ¬ p.key + by_ = k; omega), ih]
theorem srt_sh (by_ : Int) {l : List Pr} (h : Srt Pr.key l) : Srt Pr.key (l.map (shP by_)) :=
  List.pairwise_map.2 (List.Pairwise.imp (R := fun a b : Pr => a.key < b.key) (fun {a b} hab => show a.key + by_ < b.key + by_ by omega) h)
/-- The map behind a move. -/
def moved (lo hi by_ : Int) (l : List Pr) : List Pr := puts (outR lo hi l) ((inR lo hi l).map (shP by_))
theorem moved_spec (lo hi by_ : Int) {l : List Pr} (h : Srt Pr.key l) : Srt Pr.key (moved lo hi by_ l) ∧
    ∀ k, look Pr.key (moved lo hi by_ l) k = match look Pr.key ((inR lo hi l).map (shP by_)) k with | some t => some t | none => if inB lo hi k = true then none else look Pr.key l k := by
  obtain ⟨h1, h2⟩ := puts_spec ((inR lo hi l).map (shP by_)) (outR lo hi l) (srt_sh by_ (srt_in h)) (srt_out h)
  refine ⟨h1, fun k => ?_⟩
  show look Pr.key (puts _ _) k = _
  rw [h2]
  rcases look Pr.key ((inR lo hi l).map (shP by_)) k with _ | t
  · exact look_out lo hi l k
  · rfl
theorem in_out_len (lo hi : Int) (l : List Pr) : (inR lo hi l).length + (outR lo hi l).length = l.length := by
  induction l with
  | nil => rfl
  | cons p l ih =>
    unfold inR outR at ih ⊢
    rcases h : inB lo hi p.key with _ | _ <;> simp [h] at ih ⊢ <;> omega
theorem moved_len (lo hi by_ : Int) (l : List Pr) : (moved lo hi by_ l).length ≤ l.length := by
  have h1 := puts_len ((inR lo hi l).map (shP by_)) (outR lo hi l)
  have h2 := in_out_len lo hi l
  rw [List.length_map] at h1
  unfold moved
  omega
end Go.Proofs.Ytfghkmhabpagkaa
