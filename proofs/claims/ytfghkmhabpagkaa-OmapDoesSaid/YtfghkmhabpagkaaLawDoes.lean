/- The law OmapDoes, walked (printed by gen_lawdoes.py). -/
import Derived.Test.YtfghkmhabpagkaaDoIt
import Derived.Test.YtfghkmhabpagkaaOpenS
namespace Go.Proofs.Ytfghkmhabpagkaa
open Go Go.RowKit Go.ChangeShapes Go.WideShapes Go.ChangeAt Go.Deep
set_option linter.unusedVariables false

/-- A call. -/
structure Deed where
  d : Int
  key : Int
  hi : Int
  val : Int
  by_ : Int
def ddC (e : Deed) : List Value := [.int .u8 e.d, .int .u64 e.key, .int .u64 e.hi, .int .u64 e.val, .int .u64 e.by_]
def dds (l : List Deed) : List Value := l.flatMap ddC
theorem ddC_len (e : Deed) : (ddC e).length = 5 := rfl
theorem dds_len (l : List Deed) : (dds l).length = l.length * 5 := flat_len ddC 5 ddC_len l
/-- The element k of a list of calls, and its cells. -/
theorem dd_at {w : World} {B n : Nat} {b o : Nat} {l : List Deed} {k : Nat} (h : Reads w B 5 (some ⟨b, o, none⟩) n (dds l)) (hk : k < n) : ∃ e : Deed, l[k]? = some e ∧
    w.cell? ⟨b, o + k * 5, none⟩ = some (.int .u8 e.d) ∧ w.cell? ⟨b, o + k * 5 + 1, none⟩ = some (.int .u64 e.key) ∧ w.cell? ⟨b, o + k * 5 + 2, none⟩ = some (.int .u64 e.hi) ∧ w.cell? ⟨b, o + k * 5 + 3, none⟩ = some (.int .u64 e.val) ∧ w.cell? ⟨b, o + k * 5 + 4, none⟩ = some (.int .u64 e.by_) := by
  obtain ⟨ad, e, _, hc⟩ := h.2 (by omega)
  obtain rfl := Option.some.inj e
  have hl : k < l.length := by have := h.1; rw [dds_len] at this; omega
  have hg : l[k]? = some l[k] := List.getElem?_eq_getElem hl
  have g := fun j hj => flat_get ddC 5 ddC_len l k l[k] j hg hj
  have c := fun j u hu => hc j u hu
  simp only [Addr.add_lit] at c
  exact ⟨l[k], hg, c _ _ (g 0 (by omega)), c _ _ (g 1 (by omega)), c _ _ (g 2 (by omega)), c _ _ (g 3 (by omega)), c _ _ (g 4 (by omega))⟩
/-- What is known of a list of calls that came in. -/
structure IsDeeds (w : World) (A : Option Addr) (n c : Nat) (l : List Deed) : Prop where
  reads : Reads w w.heap.size 5 A n (dds l)
  le : n ≤ c
  cap : c ≤ maxLen
  wf : ∀ p ∈ l, (Lit.int .u8 p.d).wf = true ∧ (Lit.int .u64 p.key).wf = true ∧ (Lit.int .u64 p.hi).wf = true ∧ (Lit.int .u64 p.val).wf = true ∧ (Lit.int .u64 p.by_).wf = true
section
variable {H : Type} {enc : TypeId × Value → H} {w : World}
theorem open_deeds {t : TypeId} (ht : Try.prog.underlying t = some (.slice 62)) {a0 : Option Addr} {len0 cap0 : Nat} {d : DataW H} {p : List MemPlace}
    (h : DataW.Trod enc Try.prog w 0 (fun _ => true) true t (.slice a0 len0 cap0) d p) : ∃ l, IsDeeds w a0 len0 cap0 l := by
  obtain ⟨fuel, hf⟩ := h
  rcases open_slice_fields ht Try.underlying62 (by kernel_rfl) (by kernel_rfl) hf with ⟨hcs, _⟩ | ⟨x, l, c, m, D, Pl, hcs, _, hl, hm, hmm, _, hi⟩
  · simp [Value.cells] at hcs
    obtain ⟨rfl, rfl, rfl⟩ := hcs
    exact ⟨[], Reads.none_, Nat.le_refl _, Nat.zero_le _, by simp⟩
  · simp [Value.cells] at hcs
    obtain ⟨rfl, rfl, rfl⟩ := hcs
    simp at hmm
    subst hmm
    obtain ⟨q, hq, hQ⟩ := list_of (Q := fun i (p : Deed) => (w.cell? (x.add (i * 5)) = some (.int .u8 p.d) ∧ w.cell? (x.add (i * 5 + 1)) = some (.int .u64 p.key) ∧ w.cell? (x.add (i * 5 + 2)) = some (.int .u64 p.hi) ∧ w.cell? (x.add (i * 5 + 3)) = some (.int .u64 p.val) ∧ w.cell? (x.add (i * 5 + 4)) = some (.int .u64 p.by_)) ∧ (Lit.int .u8 p.d).wf = true ∧ (Lit.int .u64 p.key).wf = true ∧ (Lit.int .u64 p.hi).wf = true ∧ (Lit.int .u64 p.val).wf = true ∧ (Lit.int .u64 p.by_).wf = true) len0 fun i hil => by
      obtain ⟨ys, n, _, _, _, hfd⟩ := hi i (by omega)
      obtain ⟨v0, y0, k0, _, t0⟩ := hfd 0 _ rfl
      obtain ⟨v1, y1, k1, _, t1⟩ := hfd 1 _ rfl
      obtain ⟨v2, y2, k2, _, t2⟩ := hfd 2 _ rfl
      obtain ⟨v3, y3, k3, _, t3⟩ := hfd 3 _ rfl
      obtain ⟨v4, y4, k4, _, t4⟩ := hfd 4 _ rfl
      obtain ⟨n0, e0, _, f0⟩ := DataW.trod_int Try.underlying5 t0
      obtain ⟨n1, e1, _, f1⟩ := DataW.trod_int Try.underlying23 t1
      obtain ⟨n2, e2, _, f2⟩ := DataW.trod_int Try.underlying23 t2
      obtain ⟨n3, e3, _, f3⟩ := DataW.trod_int Try.underlying23 t3
      obtain ⟨n4, e4, _, f4⟩ := DataW.trod_int Try.underlying23 t4
      obtain rfl := List.singleton_inj.1 e0
      obtain rfl := List.singleton_inj.1 e1
      obtain rfl := List.singleton_inj.1 e2
      obtain rfl := List.singleton_inj.1 e3
      obtain rfl := List.singleton_inj.1 e4
      exact ⟨⟨n0, n1, n2, n3, n4⟩, ⟨k0, k1, k2, k3, k4⟩, f0, f1, f2, f3, f4⟩
    refine ⟨q, ⟨by rw [dds_len, hq], fun hn => ⟨x, rfl, ?_, flat_cells ddC 5 ddC_len (by decide) fun i a ha j u hu => ?_⟩⟩, hl, hm, fun p hp => ?_⟩
    · have h0 := (hQ 0 q[0] (List.getElem?_eq_getElem (by omega))).1.1
      have := World.block_lt_of_cell? w _ h0
      rwa [block_of_add] at this
    · obtain ⟨⟨h0, h1, h2, h3, h4⟩, _⟩ := hQ i a ha
      match j, hu with
      | 0, hu => obtain rfl := Option.some.inj hu; exact h0
      | 1, hu => obtain rfl := Option.some.inj hu; exact h1
      | 2, hu => obtain rfl := Option.some.inj hu; exact h2
      | 3, hu => obtain rfl := Option.some.inj hu; exact h3
      | 4, hu => obtain rfl := Option.some.inj hu; exact h4
      | j + 5, hu => simp [ddC] at hu
    · obtain ⟨i, hip⟩ := List.getElem?_of_mem hp
      exact (hQ i p hip).2
end
end Go.Proofs.Ytfghkmhabpagkaa
namespace Go.Proofs.Ytfghkmhabpagkaa
open Go Go.RowKit
set_option linter.unusedVariables false

set_option maxRecDepth 100000 in
set_option maxHeartbeats 16000000 in
theorem do_nil (w : World) (d k h x b : Int) (wd : 0 ≤ d) :
    Calls Try.prog 33 #[.pointer none, .pointer none, .agg #[.int .u8 d, .int .u64 k, .int .u64 h, .int .u64 x, .int .u64 b]] w fun e w' => e = .returned (.bool true) ∧ Below w.heap.size w w' := by
  obtain ⟨w1, hw1⟩ : ∃ w1, w.alloc (.cells #[.int .u8 d, .int .u64 k, .int .u64 h, .int .u64 x, .int .u64 b] 62) = w1 := ⟨_, rfl⟩
  have hb1 : Below w.heap.size w w1 := by rw [← hw1]; exact (Below.refl _ _).alloc (Nat.le_refl _) _
  have hB1 : Hid (Blk w1 w.heap.size 62 #[.int .u8 d, .int .u64 k, .int .u64 h, .int .u64 x, .int .u64 b]) := by rw [← hw1]; exact Blk.new w _ _
  obtain ⟨d0, d1, d2, d3, d4⟩ := cells5 hB1
  have hsz : w1.heap.size = w.heap.size + 1 := by rw [← hw1]; simp
  obtain ⟨w2, hw2⟩ : ∃ w2, w1.alloc (.cells #[.int .u64 k, .int .u64 h] 25) = w2 := ⟨_, rfl⟩
  have hb2 : Below w1.heap.size w1 w2 := by rw [← hw2]; exact (Below.refl _ _).alloc (Nat.le_refl _) _
  have hB5 : Hid (Blk w2 w.heap.size 62 #[.int .u8 d, .int .u64 k, .int .u64 h, .int .u64 x, .int .u64 b]) := hB1.out.below hb2 hB1.out.lt
  have hBs : Hid (Blk w2 (w.heap.size + 1) 25 #[.int .u64 k, .int .u64 h]) := by rw [← hw2, ← hsz]; exact Blk.new w1 _ _
  have hD2 : Hid (Below w.heap.size w w2) := below_on (below_on (Lib.hid (Below.refl w.heap.size w)) hb1) hb2
  obtain ⟨b0, b1, b2, b3, b4⟩ := cells5 hB5
  obtain ⟨p0, p1⟩ := cells2 hBs
  obtain ⟨r, hrm⟩ : ∃ r, d % 9 = r := ⟨_, rfl⟩
  have hr9 := Lib.hid (rem9 d)
  rw [hrm] at hr9
  clear hb1 hb2 hB1
  go_enter Try.func33, Try.ntmps33
  go_upto_block 0 with fail
  try rw [hw1]
  try rw [hw2]
  try rw [hrm]
  clear hrm hw1 hw2 d0 d1 d2 d3 d4 hsz
  rcases hr9.out with rfl | rfl | rfl | rfl | rfl | rfl | rfl | rfl | rfl
  · as_aux_lemma =>
      go_wp2_with fail
      refine (get_nil k w2).mono ?_
      rintro e w3 ⟨rfl, hb⟩
      have hD3 := below_on hD2 hb
      have hB3 := Lib.hid (hB5.out.below hb hB5.out.lt)
      have hS3 := Lib.hid (hBs.out.below hb hBs.out.lt)
      obtain ⟨c0, c1, c2, c3, c4⟩ := cells5 hB3
      obtain ⟨s0, s1⟩ := cells2 hS3
      clear hb hD2 hB5 hBs b0 b1 b2 b3 b4 p0 p1
      go_wp2_with fail
      refine (rget_nil k w3).mono ?_
      rintro e w4 ⟨rfl, hb⟩
      have hD4 := below_on hD3 hb
      clear hb hD3 hB3 hS3 c0 c1 c2 c3 c4 s0 s1
      go_wp2_with fail
      go_ret
      exact ⟨rfl, hD4.out⟩
  · as_aux_lemma =>
      go_wp2_with fail
      refine (put_nil k x w2).mono ?_
      rintro e w3 ⟨rfl, hb⟩
      have hD3 := below_on hD2 hb
      have hB3 := Lib.hid (hB5.out.below hb hB5.out.lt)
      have hS3 := Lib.hid (hBs.out.below hb hBs.out.lt)
      obtain ⟨c0, c1, c2, c3, c4⟩ := cells5 hB3
      obtain ⟨s0, s1⟩ := cells2 hS3
      clear hb hD2 hB5 hBs b0 b1 b2 b3 b4 p0 p1
      go_wp2_with fail
      refine (rput_nil k x w3).mono ?_
      rintro e w4 ⟨rfl, hb⟩
      have hD4 := below_on hD3 hb
      clear hb hD3 hB3 hS3 c0 c1 c2 c3 c4 s0 s1
      go_wp2_with fail
      go_ret
      exact ⟨rfl, hD4.out⟩
  · as_aux_lemma =>
      go_wp2_with fail
      refine (pif_nil k x w2).mono ?_
      rintro e w3 ⟨rfl, hb⟩
      have hD3 := below_on hD2 hb
      have hB3 := Lib.hid (hB5.out.below hb hB5.out.lt)
      have hS3 := Lib.hid (hBs.out.below hb hBs.out.lt)
      obtain ⟨c0, c1, c2, c3, c4⟩ := cells5 hB3
      obtain ⟨s0, s1⟩ := cells2 hS3
      clear hb hD2 hB5 hBs b0 b1 b2 b3 b4 p0 p1
      go_wp2_with fail
      refine (rpif_nil k x w3).mono ?_
      rintro e w4 ⟨rfl, hb⟩
      have hD4 := below_on hD3 hb
      clear hb hD3 hB3 hS3 c0 c1 c2 c3 c4 s0 s1
      go_wp2_with fail
      go_ret
      exact ⟨rfl, hD4.out⟩
  · as_aux_lemma =>
      go_wp2_with fail
      refine (del_nil k w2).mono ?_
      rintro e w3 ⟨rfl, hb⟩
      have hD3 := below_on hD2 hb
      have hB3 := Lib.hid (hB5.out.below hb hB5.out.lt)
      have hS3 := Lib.hid (hBs.out.below hb hBs.out.lt)
      obtain ⟨c0, c1, c2, c3, c4⟩ := cells5 hB3
      obtain ⟨s0, s1⟩ := cells2 hS3
      clear hb hD2 hB5 hBs b0 b1 b2 b3 b4 p0 p1
      go_wp2_with fail
      refine (rdel_nil k w3).mono ?_
      rintro e w4 ⟨rfl, hb⟩
      have hD4 := below_on hD3 hb
      clear hb hD3 hB3 hS3 c0 c1 c2 c3 c4 s0 s1
      go_wp2_with fail
      go_ret
      exact ⟨rfl, hD4.out⟩
  · as_aux_lemma =>
      go_wp2_with fail
      refine (cas_nil k b x w2).mono ?_
      rintro e w3 ⟨rfl, hb⟩
      have hD3 := below_on hD2 hb
      have hB3 := Lib.hid (hB5.out.below hb hB5.out.lt)
      have hS3 := Lib.hid (hBs.out.below hb hBs.out.lt)
      obtain ⟨c0, c1, c2, c3, c4⟩ := cells5 hB3
      obtain ⟨s0, s1⟩ := cells2 hS3
      clear hb hD2 hB5 hBs b0 b1 b2 b3 b4 p0 p1
      go_wp2_with fail
      refine (rcas_nil k b x w3).mono ?_
      rintro e w4 ⟨rfl, hb⟩
      have hD4 := below_on hD3 hb
      clear hb hD3 hB3 hS3 c0 c1 c2 c3 c4 s0 s1
      go_wp2_with fail
      go_ret
      exact ⟨rfl, hD4.out⟩
  · as_aux_lemma =>
      go_wp2_with fail
      refine (move_nil k h b w2).mono ?_
      rintro e w3 ⟨rfl, hb⟩
      have hD3 := below_on hD2 hb
      have hB3 := Lib.hid (hB5.out.below hb hB5.out.lt)
      have hS3 := Lib.hid (hBs.out.below hb hBs.out.lt)
      obtain ⟨c0, c1, c2, c3, c4⟩ := cells5 hB3
      obtain ⟨s0, s1⟩ := cells2 hS3
      clear hb hD2 hB5 hBs b0 b1 b2 b3 b4 p0 p1
      go_wp2_with fail
      refine (rmove_nil k h b w3).mono ?_
      rintro e w4 ⟨rfl, hb⟩
      have hD4 := below_on hD3 hb
      clear hb hD3 hB3 hS3 c0 c1 c2 c3 c4 s0 s1
      go_wp2_with fail
      go_ret
      exact ⟨rfl, hD4.out⟩
  · as_aux_lemma =>
      go_wp2_with fail
      refine (delR_nil k h w2).mono ?_
      rintro e w3 ⟨rfl, hb⟩
      have hD3 := below_on hD2 hb
      have hB3 := Lib.hid (hB5.out.below hb hB5.out.lt)
      have hS3 := Lib.hid (hBs.out.below hb hBs.out.lt)
      obtain ⟨c0, c1, c2, c3, c4⟩ := cells5 hB3
      obtain ⟨s0, s1⟩ := cells2 hS3
      clear hb hD2 hB5 hBs b0 b1 b2 b3 b4 p0 p1
      go_wp2_with fail
      refine (rdelR_nil k h w3).mono ?_
      rintro e w4 ⟨rfl, hb⟩
      have hD4 := below_on hD3 hb
      clear hb hD3 hB3 hS3 c0 c1 c2 c3 c4 s0 s1
      go_wp2_with fail
      go_ret
      exact ⟨rfl, hD4.out⟩
  · as_aux_lemma =>
      go_wp2_with fail
      refine (range_nil k h w2).mono ?_
      rintro e w3 ⟨rfl, hb⟩
      have hD3 := below_on hD2 hb
      have hB3 := Lib.hid (hB5.out.below hb hB5.out.lt)
      have hS3 := Lib.hid (hBs.out.below hb hBs.out.lt)
      obtain ⟨c0, c1, c2, c3, c4⟩ := cells5 hB3
      obtain ⟨s0, s1⟩ := cells2 hS3
      clear hb hD2 hB5 hBs b0 b1 b2 b3 b4 p0 p1
      go_wp2_with fail
      refine (rrange_nil k h w3).mono ?_
      rintro e w4 ⟨rfl, hb⟩
      have hD4 := below_on hD3 hb
      clear hb hD3 hB3 hS3 c0 c1 c2 c3 c4 s0 s1
      go_wp2_with fail
      refine (sameP [] none none 0 0 0 0 w4 (Lib.hid Reads.none_) (Lib.hid Reads.none_) (by omega)).mono ?_
      rintro e w5 ⟨rfl, hb⟩
      have hD4 := below_on hD4 hb
      clear hb
      go_wp2_with fail
      go_ret
      exact ⟨rfl, hD4.out⟩
  · as_aux_lemma =>
      obtain ⟨pa, hpa⟩ : ∃ pa : Int, pa = 0 := ⟨0, rfl⟩
      obtain ⟨pb, hpb⟩ : ∃ pb : Int, pb = 0 := ⟨0, rfl⟩
      have hpc : pC none = #[.int .u64 pa, .int .u64 pb] := by rw [hpa, hpb]; rfl
      clear hpa hpb
      have heq : ∀ w, (Op.equalIn 10000 38 (.agg #[.int .u64 pa, .int .u64 pb]) (.agg #[.int .u64 pa, .int .u64 pb])).run Try.prog w = .ok true w := fun w => by rw [eqP]; simp
      go_wp2_with fail
      refine (next_nil k h w2).mono ?_
      rintro e w3 ⟨hE, hb⟩
      rw [hpc] at hE
      subst hE
      obtain ⟨w4, hw4⟩ : ∃ w4, w3.alloc (.cells #[.int .u64 pa, .int .u64 pb] 38) = w4 := ⟨_, rfl⟩
      have hb4 : Below w3.heap.size w3 w4 := by rw [← hw4]; exact (Below.refl _ _).alloc (Nat.le_refl _) _
      have hP4 : Hid (Blk w4 w3.heap.size 38 #[.int .u64 pa, .int .u64 pb]) := by rw [← hw4]; exact Blk.new _ _ _
      have hD4 := below_on (below_on hD2 hb) hb4
      have hS4 : Hid (Blk w4 (w.heap.size + 1) 25 #[.int .u64 k, .int .u64 h]) := (hBs.out.below hb hBs.out.lt).below hb4 (hBs.out.below hb hBs.out.lt).lt
      have hS3 := Lib.hid (hBs.out.below hb hBs.out.lt)
      obtain ⟨s0, s1⟩ := cells2 hS4
      obtain ⟨r0, r1⟩ := cells2 hS3
      clear hb hb4 hD2 hB5 b0 b1 b2 b3 b4 p0 p1
      go_wp2_with fail
      try rw [hw4]
      refine (rnext_nil k h w4).mono ?_
      rintro e w5 ⟨hE, hb⟩
      rw [hpc] at hE
      subst hE
      have hD5 := below_on hD4 hb
      have hP5 := Lib.hid (hP4.out.below hb hP4.out.lt)
      have hD6 : Hid (Below w.heap.size w (w5.alloc (.cells #[.int .u64 pa, .int .u64 pb] 38))) := below_on hD5 ((Below.refl _ _).alloc (Nat.le_refl _) _)
      have hP6 : Hid (Blk (w5.alloc (.cells #[.int .u64 pa, .int .u64 pb] 38)) w3.heap.size 38 #[.int .u64 pa, .int .u64 pb]) := hP5.out.alloc _
      obtain ⟨m0, m1⟩ := cells2 hP6
      clear hb hD4 hP4 hP5 hS4 hS3 s0 s1 r0 r1 hw4 hD5
      go_wp2_with fail
      go_ret
      exact ⟨rfl, hD6.out⟩
end Go.Proofs.Ytfghkmhabpagkaa
namespace Go.Proofs.Ytfghkmhabpagkaa
open Go Go.RowKit
set_option linter.unusedVariables false

theorem u8_low {d : Int} (h : (Lit.int .u8 d).wf = true) : 0 ≤ d := by
  exact (bounds_u8 h).1
/-- What is known of the calls. -/
def WfD (l : List Deed) : Prop := ∀ p ∈ l, (Lit.int .u8 p.d).wf = true ∧ (Lit.int .u64 p.key).wf = true ∧ (Lit.int .u64 p.hi).wf = true ∧ (Lit.int .u64 p.val).wf = true ∧ (Lit.int .u64 p.by_).wf = true
set_option maxRecDepth 100000 in
set_option maxHeartbeats 16000000 in
theorem does_core (A : Option Addr) (n c : Nat) (l : List Pr) (A2 : Option Addr) (n2 c2 : Nat) (ds : List Deed) (w : World) (hr : Hid (Reads w w.heap.size 2 A n (prs l))) (hp : Hid (WfP l)) (hd : Hid (Reads w w.heap.size 5 A2 n2 (dds ds))) (hw : Hid (WfD ds)) :
    Calls Try.prog 9 #[.slice A n c, .slice A2 n2 c2] w fun e w' => e = .returned (.bool true) ∧ Below w.heap.size w w' := by
  have hll := Lib.hid (prs_n hr.out)
  by_cases t1 : 40 < n
  · have d1 : (40 : Int) < (n : Int) := by omega
    go_enter Try.func9, Try.ntmps9
    go_wp2_with fail
    refine (known_any _).mono ?_
    rintro e w2 ⟨rfl, hb⟩
    go_wp2_with fail
    go_ret
    exact ⟨rfl, hb⟩
  by_cases t2 : 60 < n2
  · have d1 : ¬ (40 : Int) < (n : Int) := by omega
    have d2 : (60 : Int) < (n2 : Int) := by omega
    go_enter Try.func9, Try.ntmps9
    go_wp2_with fail
    refine (known_any _).mono ?_
    rintro e w2 ⟨rfl, hb⟩
    go_wp2_with fail
    go_ret
    exact ⟨rfl, hb⟩
  have d1 : ¬ (40 : Int) < (n : Int) := by omega
  have d2 : ¬ (60 : Int) < (n2 : Int) := by omega
  go_enter Try.func9, Try.ntmps9
  go_wp2_with fail
  refine (newO_any l A n c w hr (by omega)).mono ?_
  rintro e w2 ⟨hb, ⟨hnd, g, v, rfl, ho⟩ | ⟨hnd, rfl⟩⟩
  · as_aux_lemma =>
      have hr2 := reads_on hr hb
      have hd2 := reads_on hd hb
      have m2 : Hid (MapAt w w2 g v (puts [] l)) := ⟨ho, hb⟩
      clear hb ho
      obtain ⟨S, hS⟩ : ∃ S, puts [] l = S := ⟨_, rfl⟩
      have hS40 : S.length ≤ 40 := by rw [← hS]; have h1 := puts_len l []; simp at h1; have := hll.out; omega
      have hwS : Hid (WfP S) := fun p hq => by
        rw [← hS] at hq
        rcases mem_puts _ hq with h | h
        · exact hp.out p h
        · simp at h
      rw [hS] at m2
      have hSh := Lib.hid hS
      clear hS
      go_wp2_with fail
      refine (rnew_lo l A n c w2 hr2 (by omega)).mono ?_
      rintro e w3 ⟨hb, ⟨_, g', rfl, hg', hM, hLo⟩ | ⟨h1, _⟩⟩
      case inr => exact absurd hnd h1
      rw [hSh.out] at hM
      have hD : Hid (DSt w w3 g v S g' S) := by
        have hm3 := m2.out.below hb
        have hs2 := m2.out.bel.size
        refine ⟨hm3, ?_, by omega, aside_new m2.out hg' hM.lt⟩
        obtain ⟨A0, n0, c0, hB, hr0, h3⟩ := hM
        refine ⟨A0, n0, c0, hB, ⟨hr0, fun ad e hn => ?_⟩, h3⟩
        obtain ⟨ad', e', hb', _⟩ := hr0.2 hn
        rw [e] at e'
        obtain rfl := Option.some.inj e'
        exact aside_new m2.out (hLo A0 n0 c0 hB ad e hn) hb'
      clear hb hM hLo hg' m2 hr2 hd2 hr hp hnd
      go_wp2_with fail
      go_loopg [9] n2 (fun gk iv wr => ∃ (z : Nat) (v' : Value) (S' : List Pr), z + gk = n2 ∧ iv = .int .i64 z ∧ S'.length ≤ 40 + z ∧ Hid (DSt w wr g v' S' g' S') ∧ Hid (WfP S'))
      case atStart => exact ⟨0, v, S, by omega, rfl, by omega, hD.out, hwS.out⟩
      case round =>
        clear hD hwS hS40 hSh
        obtain ⟨z, v1, S1, hz, rfl, hS1, hD, hwS⟩ := hrel
        cases gk with
        | zero =>
          obtain rfl : n2 = z := by omega
          go_wp2_with fail
          go_ret
          exact ⟨rfl, hD.out.m.bel⟩
        | succ gk =>
          have hd1 := (hd.out.below hD.out.m.bel)
          obtain ⟨b, o, rfl, hbB⟩ := reads_head hd1 (by omega) (by decide)
          obtain ⟨x, hx, c0, c1, c2', c3, c4⟩ := dd_at hd1 (show z < n2 by omega)
          obtain ⟨w0, wk, wh, wx, wb⟩ := hw.out x (List.mem_of_getElem? hx)
          obtain ⟨xd, xk, xh, xx, xb⟩ := x
          dsimp only at c0 c1 c2' c3 c4 w0 wk wh wx wb
          have z0 : (0 : Int) ≤ (z : Int) := by omega
          have z1 : (z : Int) < (n2 : Int) := by omega
          have z2 : z ≤ 60 := by omega
          clear hx hd1 hbB
          have u0 := u8_low w0
          go_wp2_with fail
          refine (do_any w wr g g' v1 S1 xd xk xh xx xb hD (by omega) hwS u0 wk wh wx wb).mono ?_
          rintro e w4 ⟨rfl, v2, S2, hD2, hS2, hwS2⟩
          have hD2 := Lib.hid hD2
          have hwS2 := Lib.hid hwS2
          have hl2 : S2.length ≤ 41 + z := by omega
          clear hD hwS c0 c1 c2' c3 c4 w0 wk wh wx wb u0 hS2 hS1
          obtain ⟨m2, hm2⟩ : ∃ m2, S2.length = m2 := ⟨_, rfl⟩
          have hm2h := Lib.hid hm2
          rw [hm2] at hl2
          clear hm2
          go_wp2_with fail
          refine (pairsM w4 (Lib.hid hD2.out.m)).mono ?_
          rintro e w5 ⟨EA, EC, rfl, hown, hb⟩
          have hD3 := dst_on hD2 hb
          have he : Hid (Reads w5 w5.heap.size 2 EA m2 (prs S2)) := by have h1 := Reads.of_own hown; rw [hm2h.out] at h1; exact h1
          try rw [hm2h.out]
          clear hown hb hD2
          go_wp2_with fail
          refine (rpairs_any S2 g' w5 (Lib.hid hD3.out.r.is) (by have := hm2h.out; omega)).mono ?_
          rintro e w6 ⟨FA, FC, rfl, hown, hb⟩
          have hD4 := dst_on hD3 hb
          have he2 := reads_on he hb
          have hf : Hid (Reads w6 w6.heap.size 2 FA m2 (prs S2)) := by have h1 := Reads.of_own hown; rw [hm2h.out] at h1; exact h1
          try rw [hm2h.out]
          clear hown hb hD3 he
          go_wp2_with fail
          refine (sameP S2 EA FA m2 m2 EC FC w6 he2 hf (by omega)).mono ?_
          rintro e w7 ⟨rfl, hb⟩
          have hD5 := dst_on hD4 hb
          clear hb he2 hf hD4
          go_wp2_with fail
          refine (lenM w7 (Lib.hid hD5.out.m)).mono ?_
          rintro e w8 ⟨rfl, hb⟩
          have hD6 := dst_on hD5 hb
          try rw [hm2h.out]
          clear hb hD5
          go_wp2_with fail
          refine (rpairs_any S2 g' w8 (Lib.hid hD6.out.r.is) (by have := hm2h.out; omega)).mono ?_
          rintro e w9 ⟨GA, GC, rfl, hown, hb⟩
          have hD7 := dst_on hD6 hb
          try rw [hm2h.out]
          clear hown hb hD6
          have e1 : (((m2 : Nat) : Int) == ((m2 : Nat) : Int)) = true := by simp
          go_wp2_with fail
          go_roundg gk
          case measure => omega
          case rel => exact ⟨z + 1, v2, S2, by omega, by go_num, by have := hm2h.out; omega, hD7, hwS2⟩
  · as_aux_lemma =>
      have hr2 := reads_on hr hb
      have hd2 := reads_on hd hb
      have hb2 := Lib.hid hb
      clear hb
      go_wp2_with fail
      refine (rnew_lo l A n c w2 hr2 (by omega)).mono ?_
      rintro e w3 ⟨hb, ⟨h1, _⟩ | ⟨_, rfl⟩⟩
      · exact absurd h1 hnd
      have hb3 := below_on hb2 hb
      clear hb hr2 hd2 hr hp hnd hb2
      go_wp2_with fail
      go_loopg [9] n2 (fun gk iv wr => ∃ (z : Nat), z + gk = n2 ∧ iv = .int .i64 z ∧ Hid (Below w.heap.size w wr))
      case atStart => exact ⟨0, by omega, rfl, hb3.out⟩
      case round =>
        clear hb3
        obtain ⟨z, hz, rfl, hbe⟩ := hrel
        cases gk with
        | zero =>
          obtain rfl : n2 = z := by omega
          go_wp2_with fail
          go_ret
          exact ⟨rfl, hbe.out⟩
        | succ gk =>
          have hd1 := (hd.out.below hbe.out)
          obtain ⟨b, o, rfl, hbB⟩ := reads_head hd1 (by omega) (by decide)
          obtain ⟨x, hx, c0, c1, c2', c3, c4⟩ := dd_at hd1 (show z < n2 by omega)
          obtain ⟨w0, wk, wh, wx, wb⟩ := hw.out x (List.mem_of_getElem? hx)
          obtain ⟨xd, xk, xh, xx, xb⟩ := x
          dsimp only at c0 c1 c2' c3 c4 w0 wk wh wx wb
          have z0 : (0 : Int) ≤ (z : Int) := by omega
          have z1 : (z : Int) < (n2 : Int) := by omega
          have z2 : z ≤ 60 := by omega
          clear hx hd1 hbB
          have u0 := u8_low w0
          go_wp2_with fail
          refine (do_nil wr xd xk xh xx xb u0).mono ?_
          rintro e w4 ⟨rfl, hb⟩
          have b4 := below_on hbe hb
          clear hb hbe c0 c1 c2' c3 c4 w0 wk wh wx wb u0
          go_wp2_with fail
          refine (pairs_nil w4).mono ?_
          rintro e w5 ⟨rfl, hb⟩
          have b5 := below_on b4 hb
          clear hb b4
          go_wp2_with fail
          refine (rpairs_nil w5).mono ?_
          rintro e w6 ⟨rfl, hb⟩
          have b6 := below_on b5 hb
          clear hb b5
          go_wp2_with fail
          refine (sameP [] none none 0 0 0 0 w6 (Lib.hid Reads.none_) (Lib.hid Reads.none_) (by omega)).mono ?_
          rintro e w7 ⟨rfl, hb⟩
          have b7 := below_on b6 hb
          clear hb b6
          go_wp2_with fail
          refine (len_nil w7).mono ?_
          rintro e w8 ⟨rfl, hb⟩
          have b8 := below_on b7 hb
          clear hb b7
          go_wp2_with fail
          refine (rpairs_nil w8).mono ?_
          rintro e w9 ⟨rfl, hb⟩
          have b9 := below_on b8 hb
          clear hb b8
          go_wp2_with fail
          go_roundg gk
          case measure => omega
          case rel => exact ⟨z + 1, by omega, by go_num, b9⟩
theorem does_law (A : Option Addr) (n c : Nat) (l : List Pr) (A2 : Option Addr) (n2 c2 : Nat) (ds : List Deed) (w : World) (hI : IsPairs w A n c l) (hJ : IsDeeds w A2 n2 c2 ds) :
    Calls Try.prog 9 #[.slice A n c, .slice A2 n2 c2] w fun e w' => e = .returned (.bool true) ∧ Below w.heap.size w w' :=
  does_core A n c l A2 n2 c2 ds w hI.reads hI.wf hJ.reads hJ.wf
end Go.Proofs.Ytfghkmhabpagkaa
