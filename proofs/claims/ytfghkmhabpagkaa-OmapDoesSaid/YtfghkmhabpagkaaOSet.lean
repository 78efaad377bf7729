/- The program's map, walked: Get and set. -/
import Derived.Test.YtfghkmhabpagkaaOPlain
namespace Go.Proofs.Ytfghkmhabpagkaa
open Go Go.RowKit
set_option linter.unusedVariables false

/-- Block g is a map of the program's, with the slice v, that holds the pairs l; both lie from base on. -/
structure IsO (w : World) (base g : Nat) (v : Value) (l : List Pr) : Prop where
  lo : base ≤ g
  blk : Blk w g 77 #[v]
  own : w.ownsRow base 38 2 v l.length (prs l)
  srt : Srt Pr.key l
  len : l.length ≤ 900000
/-- No block turned but the map's own and its row's. -/
structure But (w w' : World) (g : Nat) (v : Value) : Prop where
  os : w'.os = w.os
  tape : w'.tape = w.tape
  output : w'.output = w.output
  size : w.heap.size ≤ w'.heap.size
  block : ∀ k, k < w.heap.size → k ≠ g → v.ownBlock ≠ some k → w'.heap[k]? = w.heap[k]?
/-- The row of v' is that of v, or was made later. -/
def Since (w : World) (v v' : Value) : Prop := ∀ q, v'.ownBlock = some q → v.ownBlock = some q ∨ w.heap.size ≤ q
theorem Since.refl (w : World) (v : Value) : Since w v v := fun q h => .inl h
theorem Since.trans {w w1 : World} {v v1 v2 : Value} (hs : w.heap.size ≤ w1.heap.size) (h1 : Since w v v1) (h2 : Since w1 v1 v2) : Since w v v2 := fun q h => by
  rcases h2 q h with h3 | h3
  · exact h1 q h3
  · exact .inr (by omega)
theorem But.of_below {w w' : World} {g : Nat} {v : Value} (h : Below w.heap.size w w') : But w w' g v := ⟨h.os, h.tape, h.output, h.size, fun k hk _ _ => h.block k hk⟩
theorem But.refl (w : World) (g : Nat) (v : Value) : But w w g v := .of_below (Below.refl _ _)
theorem But.trans {w w1 w2 : World} {g : Nat} {v v1 : Value} (h1 : But w w1 g v) (h2 : But w1 w2 g v1) (hv : Since w v v1) : But w w2 g v :=
  ⟨h2.os.trans h1.os, h2.tape.trans h1.tape, h2.output.trans h1.output, Nat.le_trans h1.size h2.size, fun k hk hg hne => (h2.block k (Nat.lt_of_lt_of_le hk h1.size) hg (fun e => by
    rcases hv k e with h3 | h3
    · exact hne h3
    · omega)).trans (h1.block k hk hg hne)⟩
theorem But.of_row {w w' : World} {g : Nat} {v : Value} (h : w.grownBy w' v.ownBlock) : But w w' g v := ⟨h.os, h.tape, h.output, h.size, fun k hk _ hne => h.block k hk (fun e => hne e.symm)⟩
theorem But.of_map {w w' : World} {g : Nat} {v : Value} (h : w.grownBy w' (some g)) : But w w' g v := ⟨h.os, h.tape, h.output, h.size, fun k hk hne _ => h.block k hk (fun e => hne (Option.some.inj e))⟩
theorem But.below {B : Nat} {w0 w w' : World} {g : Nat} {v : Value} (hb : Below B w0 w) (h : But w w' g v) (hB : B ≤ w.heap.size) (hg : B ≤ g) (hv : ∀ q, v.ownBlock = some q → B ≤ q) : Below B w0 w' :=
  ⟨h.os.trans hb.os, h.tape.trans hb.tape, h.output.trans hb.output, by have := hb.size; have := h.size; omega, fun k hk => (h.block k (by omega) (by omega) (fun e => by have := hv k e; omega)).trans (hb.block k hk)⟩
theorem IsO.row_lo {w : World} {base g : Nat} {v : Value} {l : List Pr} (h : IsO w base g v l) : ∀ q, v.ownBlock = some q → base ≤ q := by
  intro q hq
  rcases h.own.2 with ⟨h1, _⟩ | ⟨g', cap, cur, hv, hb, _⟩
  · rw [h1] at hq; cases hq
  · rw [hv] at hq
    have : g' = q := by simpa [Value.ownBlock] using hq
    omega
theorem IsO.q {w : World} {base g : Nat} {v : Value} {l : List Pr} (h : IsO w base g v l) : IsQ w g l := by
  obtain ⟨A, c, rfl, hc, hm⟩ := own_form h.own
  refine ⟨A, _, c, h.blk, Reads.of_own h.own, by have := h.len; omega, hc, by unfold maxLen at hm; omega⟩
theorem IsO.below {w w' : World} {base g : Nat} {v : Value} {l : List Pr} (h : IsO w base g v l) (hb : Below w.heap.size w w') : IsO w' base g v l :=
  ⟨h.lo, h.blk.below hb h.blk.lt, own_below h.own hb, h.srt, h.len⟩
/-- Another map's doings leave this map. -/
theorem IsO.other {w w' : World} {base g g2 : Nat} {v v2 : Value} {l : List Pr} (h : IsO w base g v l) (hb : But w w' g2 v2) (h1 : g ≠ g2) (h2 : v2.ownBlock ≠ some g) (h3 : ∀ q, v.ownBlock = some q → q ≠ g2 ∧ v2.ownBlock ≠ some q) : IsO w' base g v l := by
  refine ⟨h.lo, (hb.block g h.blk.lt h1 h2).trans h.blk, ?_, h.srt, h.len⟩
  refine ⟨h.own.1, ?_⟩
  rcases h.own.2 with ⟨e, h0⟩ | ⟨g', cap, cur, hv, hbb, hg, hr⟩
  · exact .inl ⟨e, h0⟩
  · have hq := h3 g' (by rw [hv]; rfl)
    exact .inr ⟨g', cap, cur, hv, hbb, (hb.block g' (Blk.lt hg) hq.1 hq.2).trans hg, hr⟩
theorem IsO.row_ne {w : World} {base g g2 : Nat} {v : Value} {l : List Pr} (h : IsO w base g v l) {cs : Array Value} (h2 : Blk w g2 77 cs) : v.ownBlock ≠ some g2 := own_blk_ne h.own h2 (by decide)

/-- What a method leaves that turns the map into m. -/
def OEnd (base g : Nat) (v : Value) (m : List Pr) (w w' : World) : Prop := ∃ v', IsO w' base g v' m ∧ But w w' g v ∧ Since w v v'

def valO : Option Pr → Int
  | none => 0
  | some p => p.val
/-- What Get returns. -/
def GetO (l : List Pr) (key : Int) (w : World) (e : Ending) (w' : World) : Prop :=
  e = .returned (.tuple #[.int .u64 (valO (look Pr.key l key)), .bool (look Pr.key l key).isSome]) ∧ Below w.heap.size w w'
set_option maxHeartbeats 2000000 in
theorem getO_any (l : List Pr) (g : Nat) (key : Int) (w : World) (hq : Hid (IsQ w g l)) (hs : Hid (Srt Pr.key l)) :
    Calls Try.prog 17 #[.pointer (some ⟨g, 0, none⟩), .int .u64 key] w (GetO l key w) := by
  have hc := findO_any l g key w hq hs
  go_enter Try.func17, Try.ntmps17
  go_wp2_with fail
  refine hc.mono ?_
  rintro e w1 ⟨r, rfl, hat, hb⟩
  have hq1 := hq.out.below hb
  obtain ⟨A, n, c, hB, hr, hn, hnc, hc⟩ := hq1
  have hll := Lib.hid (prs_n hr)
  have hg : w1.cell? ⟨g, 0, none⟩ = some (.slice A n c) := by simpa using hB.cell 0
  have hat := Lib.hid hat
  have hb := Lib.hid hb
  have hB := Lib.hid hB
  have hr := Lib.hid hr
  have j0 : (0 : Int) ≤ (r : Int) := by omega
  rcases hl : look Pr.key l key with _ | p
  · dsimp only [Option.isSome]
    have hl := Lib.hid hl
    go_wp2_with fail
    all_goals go_ret2
    all_goals exact ⟨by rw [hl.out]; rfl, hb.out⟩
  · have hrn : r < n := by
      have h1 := hat.out.1
      rcases Nat.lt_or_eq_of_le h1 with h | h
      · rw [hll.out] at h; exact h
      · have := at_end (h ▸ hat.out)
        rw [this] at hl
        cases hl
    obtain ⟨b, o, rfl, hbB⟩ := reads_head hr.out (by omega) (by decide)
    obtain ⟨x, hx, p0, p1⟩ := prs_at hr.out hrn
    have hxp : x = p := by
      have := at_look hs.out hat.out hx
      rw [hl] at this
      split at this
      · exact (Option.some.inj this).symm
      · cases this
    subst hxp
    have hl := Lib.hid hl
    obtain ⟨pk, pv⟩ := x
    dsimp only at p0 p1
    have j1 : (r : Int) < (n : Int) := by omega
    clear hx
    dsimp only [Option.isSome]
    go_wp2_with fail
    all_goals go_ret2
    all_goals exact ⟨by rw [hl.out]; rfl, hb.out⟩

theorem but_set_ (w : World) (g i : Nat) (v : Value) : w.grownBy (w.setCell ⟨g, i, none⟩ v) (some g) :=
  ⟨rfl, rfl, rfl, by simp, fun k _ hk => Below.heap_setCell w _ v k (fun e => hk (by rw [e]))⟩
theorem ownO_set {w : World} {base g r n c : Nat} {l : List Pr} {p : Pr} {val : Int} (h : w.ownsRow base 38 2 (.slice (some ⟨g, 0, none⟩) n c) n (prs l)) (hp : l[r]? = some p) (hr : r < n) :
    (w.setCell ⟨g, r * 2 + 1, none⟩ (.int .u64 val)).ownsRow base 38 2 (.slice (some ⟨g, 0, none⟩) n c) n (prs (l.set r ⟨p.key, val⟩)) := by
  obtain ⟨g', cur, he, hbg, hB, hnc, hcm, hsz, htk⟩ := own_open h (by omega)
  injection he with he
  injection he with he1 _ _
  subst he1
  have h1 := hB.set_ (r * 2 + 1) (.int .u64 val)
  refine own_close hbg h1 hnc hcm (by rw [Array.size_setIfInBounds]; exact hsz) ?_
  rw [Array.toList_setIfInBounds, List.take_set, htk]
  exact prs_set l r p val hp
theorem Srt.lt_of {l : List Pr} (hs : Srt Pr.key l) {t t' : Nat} {p q : Pr} (h1 : l[t]? = some p) (h2 : l[t']? = some q) (h : t < t') : p.key < q.key := by
  obtain ⟨hi', e1⟩ := List.getElem?_eq_some_iff.1 h1
  obtain ⟨hj', e2⟩ := List.getElem?_eq_some_iff.1 h2
  rw [← e1, ← e2]
  exact List.pairwise_iff_getElem.1 hs t t' hi' hj' h

set_option maxHeartbeats 4000000 in
theorem setO_had (l : List Pr) (base g : Nat) (v : Value) (key val : Int) (p : Pr) (w : World) (ho : Hid (IsO w base g v l)) (hl : Hid (look Pr.key l key = some p)) :
    Calls Try.prog 37 #[.pointer (some ⟨g, 0, none⟩), .int .u64 key, .int .u64 val] w fun e w' => (∃ x, e = .returned x) ∧ OEnd base g v (setP ⟨key, val⟩ l) w w' := by
  have hc : Calls Try.prog 38 #[.pointer (some ⟨g, 0, none⟩), .int .u64 key] w (fun e w' => ∃ r : Nat, e = .returned (.tuple #[.int .i64 r, .bool true]) ∧ At l key r ∧ Below w.heap.size w w') :=
    (findO_any l g key w (Lib.hid ho.out.q) (Lib.hid ho.out.srt)).mono fun e w' ⟨r, h1, h2⟩ => ⟨r, by rw [h1, hl.out]; rfl, h2⟩
  go_enter Try.func37, Try.ntmps37
  go_wp2_with fail
  refine hc.mono ?_
  rintro e w1 ⟨r, rfl, hat, hb⟩
  have ho1 := ho.out.below hb
  obtain ⟨A, c, rfl, hnc, hcm⟩ := own_form ho1.own
  have hrn : r < l.length := by
    rcases Nat.lt_or_eq_of_le hat.1 with h | h
    · exact h
    · have := at_end (h ▸ hat)
      rw [this] at hl
      cases hl.out
  have hown := ho1.own
  obtain ⟨b, cur, rfl, hbg, hB, _, _, hsz, htk⟩ := own_open hown (by omega)
  obtain ⟨x, hx, p0, p1⟩ := prs_at (Reads.of_own hown) hrn
  have hxp : x = p := by
    have := at_look ho1.srt hat hx
    rw [hl.out] at this
    split at this
    · exact (Option.some.inj this).symm
    · cases this
  subst hxp
  have hkey : x.key = key := (look_some hl.out).2
  have hg : w1.cell? ⟨g, 0, none⟩ = some (.slice (some ⟨b, 0, none⟩) l.length c) := by simpa using ho1.blk.cell 0
  have hgf := ho1.blk.frozen 0
  have hbf := hB.frozen (r * 2 + 1)
  have hbg1 : b ≠ g := fun e => ho1.row_ne ho1.blk (by rw [← e]; rfl)
  have hset := setP_had ⟨key, val⟩ l r ho1.srt hat ⟨x, hx, hkey⟩
  have hend : Hid (OEnd base g (.slice (some ⟨b, 0, none⟩) l.length c) (setP ⟨key, val⟩ l) w (w1.setCell ⟨b, r * 2 + 1, none⟩ (.int .u64 val))) := by
    have h1 := ownO_set (val := val) hown hx hrn
    have hsp := set_spec ⟨key, val⟩ l ho1.srt
    rw [hset] at hsp
    rw [hkey] at h1
    rw [hset]
    refine Lib.hid ⟨_, ⟨ho1.lo, ho1.blk.far (Ne.symm hbg1) _, by rw [List.length_set]; exact h1, hsp.1, by rw [List.length_set]; exact ho1.len⟩, ?_, Since.refl _ _⟩
    exact (But.of_below hb).trans (v1 := .slice (some ⟨b, 0, none⟩) l.length c) (.of_row (but_set_ w1 b (r * 2 + 1) _)) (Since.refl _ _)
  have j0 : (0 : Int) ≤ (r : Int) := by omega
  have j1 : (r : Int) < (l.length : Int) := by omega
  obtain ⟨n, hn⟩ : ∃ n, n = l.length := ⟨_, rfl⟩
  rw [← hn] at hg j1 hend
  simp only [Nat.zero_add] at p0 p1
  clear hc hl ho ho1 hown hB hsz htk hx hset hcm
  go_wp2_with fail
  refine bodyPost_ret (results_none rfl _ _ _) rfl ?_
  subst hn
  exact ⟨⟨_, rfl⟩, hend.out⟩

/-- The map's slice is written anew: what the map then is. -/
theorem rewrite_map {w w1 w2 : World} {base g : Nat} {v v' : Value} {l m : List Pr} (ho : IsO w1 base g v l) (hb : Below w.heap.size w w1) (hw : w.heap.size ≤ w1.heap.size) (hown : w2.ownsRow base 38 2 v' m.length (prs m)) (hg : w1.grownBy w2 v.ownBlock)
    (hat : Since w1 v v') (hs : Srt Pr.key m) (hl : m.length ≤ 900000) (hv : ∀ q, v.ownBlock = some q → q < w.heap.size) : OEnd base g v m w (w2.setCell ⟨g, 0, none⟩ v') ∧ Blk w2 g 77 #[v] := by
  have hbg : Blk w2 g 77 #[v] := ho.blk.grown hg (fun e => ho.row_ne ho.blk e.symm)
  refine ⟨⟨v', ⟨ho.lo, ?_, ?_, hs, hl⟩, ?_, ?_⟩, hbg⟩
  · have := hbg.set_ 0 v'
    exact this
  · have hne : v'.ownBlock ≠ some g := own_blk_ne hown hbg (by decide)
    exact hown.kept (but_set_ w2 g 0 v') (.inr (by simpa using hne))
  · refine (But.of_below hb).trans (v1 := v) ?_ (Since.refl _ _)
    exact (But.of_row hg).trans (v1 := v) (.of_map (but_set_ w2 g 0 v')) (Since.refl _ _)
  · intro q hq
    rcases hat q hq with h | h
    · exact .inl h
    · exact .inr (by omega)

set_option maxHeartbeats 4000000 in
theorem setO_new (l : List Pr) (base g : Nat) (v : Value) (key val : Int) (w : World) (ho : Hid (IsO w base g v l)) (hl : Hid (look Pr.key l key = none)) (hlen : l.length ≤ 800000) :
    Calls Try.prog 37 #[.pointer (some ⟨g, 0, none⟩), .int .u64 key, .int .u64 val] w fun e w' => (∃ x, e = .returned x) ∧ OEnd base g v (setP ⟨key, val⟩ l) w w' := by
  have hc : Calls Try.prog 38 #[.pointer (some ⟨g, 0, none⟩), .int .u64 key] w (fun e w' => ∃ r : Nat, e = .returned (.tuple #[.int .i64 r, .bool false]) ∧ At l key r ∧ Below w.heap.size w w') :=
    (findO_any l g key w (Lib.hid ho.out.q) (Lib.hid ho.out.srt)).mono fun e w' ⟨r, h1, h2⟩ => ⟨r, by rw [h1, hl.out]; rfl, h2⟩
  have hvlt : Hid (∀ q, v.ownBlock = some q → q < w.heap.size) := Lib.hid (fun q hq => (ho.out.own.lt q hq).2)
  go_enter Try.func37, Try.ntmps37
  go_wp2_with fail
  refine hc.mono ?_
  rintro e w1 ⟨r, rfl, hat, hb⟩
  have ho1 := ho.out.below hb
  obtain ⟨A, c, rfl, hnc, hcm⟩ := own_form ho1.own
  have hg : w1.cell? ⟨g, 0, none⟩ = some (.slice A l.length c) := by simpa using ho1.blk.cell 0
  have hset := setP_new ⟨key, val⟩ l r ho1.srt hat (fun q hq e => by
    have := look_mem ho1.srt (List.mem_of_getElem? hq)
    rw [e, hl.out] at this
    cases this)
  have hsp := set_spec ⟨key, val⟩ l ho1.srt
  have hrl := hat.1
  obtain ⟨w2, hw2⟩ : ∃ w2, w2 = w1.alloc (.cells #[.int .u64 key, .int .u64 val] 38) := ⟨_, rfl⟩
  have hb2 : Below w1.heap.size w1 w2 := by rw [hw2]; exact (Below.refl _ _).alloc (Nat.le_refl _) _
  have ho2 := ho1.below hb2
  have hg2 : Blk w2 w1.heap.size 38 #[.int .u64 key, .int .u64 val] := by rw [hw2]; exact Blk.new w1 _ _
  have hins := insert_any l A l.length c w1.heap.size base r key val w2 ho2.own hg2 (fun e => by have := (ho1.own.lt _ e).2; omega) hrl (by omega) (by have := ho1.lo; have := ho1.blk.lt; have := hb2.size; omega)
  rw [← hset] at hins
  have hsz1 : w.heap.size ≤ w1.heap.size := hb.size
  have hb02 : Below w.heap.size w w2 := hb.trans (hb2.mono hsz1)
  have hH := Lib.hid (And.intro ho2 (And.intro hb02 (And.intro hsp (And.intro hset hb2.size))))
  obtain ⟨n, hn⟩ : ∃ n, n = l.length := ⟨_, rfl⟩
  have hN := Lib.hid hn
  rw [← hn] at hg hins
  clear hc hl ho ho1 hset hsp hat hb hb2 ho2 hg2 hb02 hrl hnc hcm hn
  go_wp2_with fail
  rw [← hw2]
  refine hins.mono ?_
  rintro e w3 ⟨A', c', rfl, hown3, hg3, hat3⟩
  rw [hN.out] at hg3 hat3
  obtain ⟨ho2, hb02, hsp, hset, hs12⟩ := hH.out
  have hR := rewrite_map (w := w) (w1 := w2) ho2 hb02 hb02.size hown3 hg3 hat3 hsp.1 (by rw [hset, insAt_len]; omega) hvlt.out
  have hc3 : w3.cell? ⟨g, 0, none⟩ = some (.slice A l.length c) := by simpa using hR.2.cell 0
  have hf3 := hR.2.frozen 0
  have hR := Lib.hid hR.1
  clear hown3 hg3 hat3 ho2 hb02 hsp hset hs12 hH hins hg hw2
  go_wp2_with fail
  go_end0
  exact ⟨⟨_, rfl⟩, hR.out⟩
theorem setO_any (l : List Pr) (base g : Nat) (v : Value) (key val : Int) (w : World) (ho : IsO w base g v l) (hlen : l.length ≤ 800000) :
    Calls Try.prog 37 #[.pointer (some ⟨g, 0, none⟩), .int .u64 key, .int .u64 val] w fun e w' => (∃ x, e = .returned x) ∧ OEnd base g v (setP ⟨key, val⟩ l) w w' := by
  rcases hl : look Pr.key l key with _ | p
  · exact setO_new l base g v key val w (Lib.hid ho) (Lib.hid hl) hlen
  · exact setO_had l base g v key val p w (Lib.hid ho) (Lib.hid hl)
end Go.Proofs.Ytfghkmhabpagkaa
