/- The law PlanJoins, walked (printed by gen_lawjoins.py). -/
import Derived.Test.YtlaocajjenfgpaaOne
namespace Go.Proofs.Ytlaocajjenfgpaa
open Go Go.RowKit
set_option linter.unusedVariables false

theorem plan_nil : Plan [] := fun k c h => by simp at h
/-- What the three plans of the law lead to, and how long all lists are. -/
theorem joins_facts {ps : List Pr} (h : Asc ps) (hn : ps.length ≤ 40) (x0 x1 x2 x3 x4 x5 x6 x7 x8 : Int) :
    ∃ (a b c ab bc l : List Chg) (p q r : List Pr), oneL x0 x1 x6 ps = a ∧ oneL x2 x3 x7 p = b ∧ oneL x4 x5 x8 q = c ∧ Leads ps a p ∧ Leads p b q ∧ Leads q c r ∧
      thn a b = some ab ∧ thn b c = some bc ∧ thn ab c = some l ∧ thn a bc = some l ∧ Leads ps ab q ∧ Leads p bc r ∧ Leads ps l r ∧
      a.length ≤ 2000 ∧ b.length ≤ 2000 ∧ c.length ≤ 2000 ∧ ab.length ≤ 2000 ∧ bc.length ≤ 2000 ∧ l.length ≤ 2000 ∧ p.length ≤ 2000 ∧ q.length ≤ 2000 ∧ r.length ≤ 2000 := by
  obtain ⟨p, La⟩ := oneL_leads x0 x1 x6 h
  obtain ⟨q, Lb⟩ := oneL_leads x2 x3 x7 La.dst
  obtain ⟨r, Lc⟩ := oneL_leads x4 x5 x8 Lb.dst
  obtain ⟨ab, bc, l, h1, h2, h3, h4, L1, L2, L3⟩ := chain3 La Lb Lc
  have e1 := oneL_len x0 x1 x6 ps
  have e2 := La.len
  have e3 := oneL_len x2 x3 x7 p
  have e4 := Lb.len
  have e5 := oneL_len x4 x5 x8 q
  have e6 := Lc.len
  have e7 := thn_len _ _ _ h1
  have e8 := thn_len _ _ _ h2
  have e9 := thn_len _ _ _ h3
  exact ⟨_, _, _, ab, bc, l, p, q, r, rfl, rfl, rfl, La, Lb, Lc, h1, h2, h3, h4, L1, L2, L3, by omega, by omega, by omega, by omega, by omega, by omega, by omega, by omega, by omega⟩

set_option maxRecDepth 100000 in
set_option maxHeartbeats 4000000 in
theorem joins_law (a0 : Option Addr) (len0 cap0 : Nat) (ps : List Pr) (x0 x1 x2 x3 x4 x5 x6 x7 x8 : Int) (w : World) (h0 : IsPairs w a0 len0 cap0 ps)
    (f0 : (Lit.int .u64 x0).wf = true) (f1 : (Lit.int .u64 x1).wf = true) (f2 : (Lit.int .u64 x2).wf = true) (f3 : (Lit.int .u64 x3).wf = true) (f4 : (Lit.int .u64 x4).wf = true) (f5 : (Lit.int .u64 x5).wf = true) (f6 : (Lit.int .u64 x6).wf = true) (f7 : (Lit.int .u64 x7).wf = true) (f8 : (Lit.int .u64 x8).wf = true) :
    Calls Try.prog 8 #[.slice a0 len0 cap0, .agg #[.int .u64 x0, .int .u64 x1, .int .u64 x2, .int .u64 x3, .int .u64 x4, .int .u64 x5, .int .u64 x6, .int .u64 x7, .int .u64 x8]] w fun e w' => e = .returned (.bool true) ∧ Below w.heap.size w w' := by
  have hr : Hid (Reads w w.heap.size 2 a0 len0 (prs ps)) := h0.reads
  have hm0 : len0 ≤ cap0 ∧ cap0 ≤ 9223372036854775807 := by have h1 := h0.le; have h2 := h0.cap; unfold maxLen at h2; omega
  obtain ⟨hm0, hm0'⟩ := hm0
  have hl0 := Lib.hid (prs_n hr.out)
  have hf := Lib.hid (And.intro (And.intro f0 (And.intro f1 f6)) (And.intro (And.intro f2 (And.intro f3 f7)) (And.intro f4 (And.intro f5 f8))))
  clear h0 f0 f1 f2 f3 f4 f5 f6 f7 f8
  by_cases hbig : 40 < len0
  · have hd : decide ((40 : Int) < (len0 : Int)) = true := by simp; omega
    go_enter Try.func8, Try.ntmps8
    go_wp2_with fail
    refine (known_any _).mono ?_
    rintro e w1 ⟨rfl, hb⟩
    have hb1 : Hid (Below w.heap.size w w1) := ((Below.refl _ _).alloc (Nat.le_refl _) _).trans (hb.mono (by simp))
    clear hb
    go_wp2_with fail
    go_ret
    exact ⟨rfl, hb1.out⟩
  · have hd : decide ((40 : Int) < (len0 : Int)) = false := by simp; omega
    have hr1 : Hid (Reads (w.alloc (.cells #[.int .u64 x0, .int .u64 x1, .int .u64 x2, .int .u64 x3, .int .u64 x4, .int .u64 x5, .int .u64 x6, .int .u64 x7, .int .u64 x8] 54)) (w.alloc (.cells #[.int .u64 x0, .int .u64 x1, .int .u64 x2, .int .u64 x3, .int .u64 x4, .int .u64 x5, .int .u64 x6, .int .u64 x7, .int .u64 x8] 54)).heap.size 2 a0 len0 (prs ps)) := (hr.out.alloc (Nat.le_refl _) _).more (by simp)
    go_enter Try.func8, Try.ntmps8
    go_wp2_with fail
    refine (apply_any ps [] a0 none len0 0 cap0 0 _ hr1 Reads.none_ (by omega) (by omega) hm0 hm0').mono ?_
    rintro e w1 ⟨g1, _, g3, hb⟩
    have hb1 : Hid (Below w.heap.size w w1) := ((Below.refl _ _).alloc (Nat.le_refl _) _).trans (hb.mono (by simp))
    have bx1 : Hid (Blk w1 w.heap.size 54 #[.int .u64 x0, .int .u64 x1, .int .u64 x2, .int .u64 x3, .int .u64 x4, .int .u64 x5, .int .u64 x6, .int .u64 x7, .int .u64 x8]) := (Blk.new w _ _).below hb (by simp)
    have pr1 := reads_on hr1 hb
    clear hb
    by_cases hp : Asc ps
    · obtain ⟨A1, c1, rfl, ho⟩ := g3 ⟨hp, plan_nil⟩ ps rfl
      rw [hl0.out] at ho ⊢
      have st1 := (own_reads ho).1
      obtain ⟨a, b, c, ab, bc, l, p, q, r, eA, eB, eC, La, Lb, Lc, t1, t2, t3, t4, Lab, Lbc, Ll, na', nb', nc', nab', nbc', nl', np', nq', nr'⟩ := joins_facts hp (by rw [hl0.out]; omega) x0 x1 x2 x3 x4 x5 x6 x7 x8
      have eA := Lib.hid eA
      have eB := Lib.hid eB
      have eC := Lib.hid eC
      have t1 := Lib.hid t1
      have t2 := Lib.hid t2
      have t3 := Lib.hid t3
      have t4 := Lib.hid t4
      have La := Lib.hid La
      have Lb := Lib.hid Lb
      have Lc := Lib.hid Lc
      have Lab := Lib.hid Lab
      have Lbc := Lib.hid Lbc
      have Ll := Lib.hid Ll
      obtain ⟨na, hna⟩ : ∃ n, a.length = n := ⟨_, rfl⟩
      rw [hna] at na'
      have hna := Lib.hid hna
      obtain ⟨nb, hnb⟩ : ∃ n, b.length = n := ⟨_, rfl⟩
      rw [hnb] at nb'
      have hnb := Lib.hid hnb
      obtain ⟨nc, hnc⟩ : ∃ n, c.length = n := ⟨_, rfl⟩
      rw [hnc] at nc'
      have hnc := Lib.hid hnc
      obtain ⟨nab, hnab⟩ : ∃ n, ab.length = n := ⟨_, rfl⟩
      rw [hnab] at nab'
      have hnab := Lib.hid hnab
      obtain ⟨nbc, hnbc⟩ : ∃ n, bc.length = n := ⟨_, rfl⟩
      rw [hnbc] at nbc'
      have hnbc := Lib.hid hnbc
      obtain ⟨nl, hnl⟩ : ∃ n, l.length = n := ⟨_, rfl⟩
      rw [hnl] at nl'
      have hnl := Lib.hid hnl
      obtain ⟨np, hnp⟩ : ∃ n, p.length = n := ⟨_, rfl⟩
      rw [hnp] at np'
      have hnp := Lib.hid hnp
      obtain ⟨nq, hnq⟩ : ∃ n, q.length = n := ⟨_, rfl⟩
      rw [hnq] at nq'
      have hnq := Lib.hid hnq
      obtain ⟨nr, hnr⟩ : ∃ n, r.length = n := ⟨_, rfl⟩
      rw [hnr] at nr'
      have hnr := Lib.hid hnr
      have hP := Lib.hid hp
      clear g1 g3 ho hp
      go_wp2_with fail
      refine (ascL_any ps a0 len0 cap0 w1 pr1 (by omega)).mono ?_
      rintro e w2 ⟨g1, _, hb⟩
      obtain rfl := g1 hP.out
      clear g1
      have hb2 := below_on hb1 hb
      have pr2 := reads_on pr1 hb
      have bx2 := Lib.hid (bx1.out.below hb bx1.out.lt)
      have st2 := reads_on st1 hb
      clear hb1 hb pr1 bx1 st1
      go_wp2_with fail
      refine (sameL ps A1 a0 len0 len0 c1 cap0 w2 st2 pr2 (by omega)).mono ?_
      rintro e w3 ⟨rfl, hb⟩
      have hb3 := below_on hb2 hb
      have pr3 := reads_on pr2 hb
      have bx3 := Lib.hid (bx2.out.below hb bx2.out.lt)
      clear hb2 hb pr2 bx2 st2
      have M0 := bx3.out.cell 0
      have M1 := bx3.out.cell 1
      have M6 := bx3.out.cell 6
      simp at M0 M1 M6
      have hgl := bx3.out.lt
      go_wp2_with fail
      refine (one_any ps a0 len0 cap0 x0 x1 x6 w3 pr3 (by omega) hf.out.1.1 hf.out.1.2.1 hf.out.1.2.2).mono ?_
      rintro e w4 ⟨Aa, ca, rfl, ho, hb⟩
      rw [eA.out, hna.out] at ho
      rw [eA.out, hna.out]
      obtain ⟨za, hca, hca'⟩ := own_reads ho
      clear ho
      have hb4 := below_on hb3 hb
      have pr4 := reads_on pr3 hb
      have bx4 := Lib.hid (bx3.out.below hb bx3.out.lt)
      have a4 := za
      clear hb3 hb pr3 bx3
      clear za M0 M1 M6 hgl
      go_wp2_with fail
      refine (apply_any ps a a0 Aa len0 na cap0 ca w4 pr4 a4 (by omega) (by omega) hm0 hm0').mono ?_
      rintro e w5 ⟨_, _, g3, hb⟩
      obtain ⟨Ap, cp, rfl, ho⟩ := g3 ⟨hP.out, La.out.plan⟩ _ La.out.app
      rw [hnp.out] at ho ⊢
      obtain ⟨zp, hcp, hcp'⟩ := own_reads ho
      clear ho g3
      have hb5 := below_on hb4 hb
      have pr5 := reads_on pr4 hb
      have bx5 := Lib.hid (bx4.out.below hb bx4.out.lt)
      have a5 := reads_on a4 hb
      have p5 := zp
      clear hb4 hb pr4 bx4 a4
      clear zp
      have M2 := bx5.out.cell 2
      have M3 := bx5.out.cell 3
      have M7 := bx5.out.cell 7
      simp at M2 M3 M7
      have hgl := bx5.out.lt
      go_wp2_with fail
      refine (one_any p Ap np cp x2 x3 x7 w5 p5 (by omega) hf.out.2.1.1 hf.out.2.1.2.1 hf.out.2.1.2.2).mono ?_
      rintro e w6 ⟨Ab, cb, rfl, ho, hb⟩
      rw [eB.out, hnb.out] at ho
      rw [eB.out, hnb.out]
      obtain ⟨zb, hcb, hcb'⟩ := own_reads ho
      clear ho
      have hb6 := below_on hb5 hb
      have pr6 := reads_on pr5 hb
      have bx6 := Lib.hid (bx5.out.below hb bx5.out.lt)
      have a6 := reads_on a5 hb
      have p6 := reads_on p5 hb
      have b6 := zb
      clear hb5 hb pr5 bx5 a5 p5
      clear zb M2 M3 M7 hgl
      go_wp2_with fail
      refine (apply_any p b Ap Ab np nb cp cb w6 p6 b6 (by omega) (by omega) hcp hcp').mono ?_
      rintro e w7 ⟨_, _, g3, hb⟩
      obtain ⟨Aq, cq, rfl, ho⟩ := g3 ⟨La.out.dst, Lb.out.plan⟩ _ Lb.out.app
      rw [hnq.out] at ho ⊢
      obtain ⟨zq, hcq, hcq'⟩ := own_reads ho
      clear ho g3
      have hb7 := below_on hb6 hb
      have pr7 := reads_on pr6 hb
      have bx7 := Lib.hid (bx6.out.below hb bx6.out.lt)
      have a7 := reads_on a6 hb
      have p7 := reads_on p6 hb
      have b7 := reads_on b6 hb
      have q7 := zq
      clear hb6 hb pr6 bx6 a6 p6 b6
      clear zq
      have M4 := bx7.out.cell 4
      have M5 := bx7.out.cell 5
      have M8 := bx7.out.cell 8
      simp at M4 M5 M8
      have hgl := bx7.out.lt
      go_wp2_with fail
      refine (one_any q Aq nq cq x4 x5 x8 w7 q7 (by omega) hf.out.2.2.1 hf.out.2.2.2.1 hf.out.2.2.2.2).mono ?_
      rintro e w8 ⟨Ac, cc, rfl, ho, hb⟩
      rw [eC.out, hnc.out] at ho
      rw [eC.out, hnc.out]
      obtain ⟨zc, hcc, hcc'⟩ := own_reads ho
      clear ho
      have hb8 := below_on hb7 hb
      have pr8 := reads_on pr7 hb
      have bx8 := Lib.hid (bx7.out.below hb bx7.out.lt)
      have a8 := reads_on a7 hb
      have p8 := reads_on p7 hb
      have b8 := reads_on b7 hb
      have q8 := reads_on q7 hb
      have c8 := zc
      clear hb7 hb pr7 bx7 a7 p7 b7 q7
      clear zc M4 M5 M8 hgl
      go_wp2_with fail
      refine (apply_any q c Aq Ac nq nc cq cc w8 q8 c8 (by omega) (by omega) hcq hcq').mono ?_
      rintro e w9 ⟨_, _, g3, hb⟩
      obtain ⟨Ar, cr, rfl, ho⟩ := g3 ⟨Lb.out.dst, Lc.out.plan⟩ _ Lc.out.app
      rw [hnr.out] at ho ⊢
      obtain ⟨zr, hcr, hcr'⟩ := own_reads ho
      clear ho g3
      have hb9 := below_on hb8 hb
      have pr9 := reads_on pr8 hb
      have a9 := reads_on a8 hb
      have p9 := reads_on p8 hb
      have b9 := reads_on b8 hb
      have q9 := reads_on q8 hb
      have c9 := reads_on c8 hb
      have r9 := zr
      clear hb8 hb pr8 a8 p8 b8 q8 c8
      clear zr
      go_wp2_with fail
      refine (then_any a b Aa Ab na nb ca cb w9 a9 b9 (by omega) (by omega) hcb hcb').mono ?_
      rintro e w10 ⟨_, _, g3, hb⟩
      obtain ⟨Aab, cab, rfl, ho⟩ := g3 ⟨La.out.plan, Lb.out.plan⟩ _ t1.out
      rw [hnab.out] at ho ⊢
      obtain ⟨zab, hcab, hcab'⟩ := own_reads ho
      clear ho g3
      have hb10 := below_on hb9 hb
      have pr10 := reads_on pr9 hb
      have a10 := reads_on a9 hb
      have p10 := reads_on p9 hb
      have b10 := reads_on b9 hb
      have q10 := reads_on q9 hb
      have c10 := reads_on c9 hb
      have r10 := reads_on r9 hb
      have ab10 := zab
      clear hb9 hb pr9 a9 p9 b9 q9 c9 r9
      clear zab
      go_wp2_with fail
      refine (then_any b c Ab Ac nb nc cb cc w10 b10 c10 (by omega) (by omega) hcc hcc').mono ?_
      rintro e w11 ⟨_, _, g3, hb⟩
      obtain ⟨Abc, cbc, rfl, ho⟩ := g3 ⟨Lb.out.plan, Lc.out.plan⟩ _ t2.out
      rw [hnbc.out] at ho ⊢
      obtain ⟨zbc, hcbc, hcbc'⟩ := own_reads ho
      clear ho g3
      have hb11 := below_on hb10 hb
      have pr11 := reads_on pr10 hb
      have a11 := reads_on a10 hb
      have p11 := reads_on p10 hb
      have b11 := reads_on b10 hb
      have q11 := reads_on q10 hb
      have c11 := reads_on c10 hb
      have r11 := reads_on r10 hb
      have ab11 := reads_on ab10 hb
      have bc11 := zbc
      clear hb10 hb pr10 a10 p10 b10 q10 c10 r10 ab10
      clear zbc
      go_wp2_with fail
      refine (then_any ab c Aab Ac nab nc cab cc w11 ab11 c11 (by omega) (by omega) hcc hcc').mono ?_
      rintro e w12 ⟨_, _, g3, hb⟩
      obtain ⟨Al, cl, rfl, ho⟩ := g3 ⟨Lab.out.plan, Lc.out.plan⟩ _ t3.out
      rw [hnl.out] at ho ⊢
      obtain ⟨zl, hcl, hcl'⟩ := own_reads ho
      clear ho g3
      have hb12 := below_on hb11 hb
      have pr12 := reads_on pr11 hb
      have a12 := reads_on a11 hb
      have p12 := reads_on p11 hb
      have b12 := reads_on b11 hb
      have q12 := reads_on q11 hb
      have c12 := reads_on c11 hb
      have r12 := reads_on r11 hb
      have ab12 := reads_on ab11 hb
      have bc12 := reads_on bc11 hb
      have l12 := zl
      clear hb11 hb pr11 a11 p11 b11 q11 c11 r11 ab11 bc11
      clear zl
      go_wp2_with fail
      refine (then_any a bc Aa Abc na nbc ca cbc w12 a12 bc12 (by omega) (by omega) hcbc hcbc').mono ?_
      rintro e w13 ⟨_, _, g3, hb⟩
      obtain ⟨AR, cR, rfl, ho⟩ := g3 ⟨La.out.plan, Lbc.out.plan⟩ _ t4.out
      rw [hnl.out] at ho ⊢
      obtain ⟨hR, _, _⟩ := own_reads ho
      clear ho g3
      have hb13 := below_on hb12 hb
      have pr13 := reads_on pr12 hb
      have a13 := reads_on a12 hb
      have p13 := reads_on p12 hb
      have b13 := reads_on b12 hb
      have q13 := reads_on q12 hb
      have c13 := reads_on c12 hb
      have r13 := reads_on r12 hb
      have ab13 := reads_on ab12 hb
      have bc13 := reads_on bc12 hb
      have l13 := reads_on l12 hb
      have R13 := hR
      clear hb12 hb pr12 a12 p12 b12 q12 c12 r12 ab12 bc12 l12
      clear hR
      go_wp2_with fail
      refine (equalC l Al AR nl nl cl cR w13 l13 R13 (by omega)).mono ?_
      rintro e w14 ⟨rfl, hb⟩
      have hb14 := below_on hb13 hb
      have pr14 := reads_on pr13 hb
      have p14 := reads_on p13 hb
      have q14 := reads_on q13 hb
      have r14 := reads_on r13 hb
      have ab14 := reads_on ab13 hb
      have l14 := reads_on l13 hb
      clear hb13 hb pr13 a13 p13 b13 q13 c13 r13 ab13 bc13 l13 R13
      go_wp2_with fail
      refine (apply_any ps ab a0 Aab len0 nab cap0 cab w14 pr14 ab14 (by omega) (by omega) hm0 hm0').mono ?_
      rintro e w15 ⟨_, _, g3, hb⟩
      obtain ⟨Aq2, cq2, rfl, ho⟩ := g3 ⟨hP.out, Lab.out.plan⟩ _ Lab.out.app
      rw [hnq.out] at ho ⊢
      obtain ⟨zq2, hcq2, hcq2'⟩ := own_reads ho
      clear ho g3
      have hb15 := below_on hb14 hb
      have pr15 := reads_on pr14 hb
      have p15 := reads_on p14 hb
      have q15 := reads_on q14 hb
      have r15 := reads_on r14 hb
      have ab15 := reads_on ab14 hb
      have l15 := reads_on l14 hb
      have q215 := zq2
      clear hb14 hb pr14 p14 q14 r14 ab14 l14
      clear zq2
      go_wp2_with fail
      refine (apply_any ps l a0 Al len0 nl cap0 cl w15 pr15 l15 (by omega) (by omega) hm0 hm0').mono ?_
      rintro e w16 ⟨_, _, g3, hb⟩
      obtain ⟨Ar2, cr2, rfl, ho⟩ := g3 ⟨hP.out, Ll.out.plan⟩ _ Ll.out.app
      rw [hnr.out] at ho ⊢
      obtain ⟨zr2, hcr2, hcr2'⟩ := own_reads ho
      clear ho g3
      have hb16 := below_on hb15 hb
      have pr16 := reads_on pr15 hb
      have p16 := reads_on p15 hb
      have q16 := reads_on q15 hb
      have r16 := reads_on r15 hb
      have ab16 := reads_on ab15 hb
      have l16 := reads_on l15 hb
      have q216 := reads_on q215 hb
      have r216 := zr2
      clear hb15 hb pr15 p15 q15 r15 ab15 l15 q215
      clear zr2
      go_wp2_with fail
      refine (sameL q Aq2 Aq nq nq cq2 cq w16 q216 q16 (by omega)).mono ?_
      rintro e w17 ⟨rfl, hb⟩
      have hb17 := below_on hb16 hb
      have pr17 := reads_on pr16 hb
      have p17 := reads_on p16 hb
      have q17 := reads_on q16 hb
      have r17 := reads_on r16 hb
      have ab17 := reads_on ab16 hb
      have l17 := reads_on l16 hb
      have q217 := reads_on q216 hb
      have r217 := reads_on r216 hb
      clear hb16 hb pr16 p16 q16 r16 ab16 l16 q216 r216
      go_wp2_with fail
      refine (sameL r Ar2 Ar nr nr cr2 cr w17 r217 r17 (by omega)).mono ?_
      rintro e w18 ⟨rfl, hb⟩
      have hb18 := below_on hb17 hb
      clear hb17 hb pr17 p17 q17 r17 ab17 l17 q217 r217
      go_wp2_with fail
      refine (known_any _).mono ?_
      rintro e w19 ⟨rfl, hb⟩
      have hb19 := below_on hb18 hb
      clear hb18 hb
      go_wp2_with fail
      go_ret
      exact ⟨by simp, hb19.out⟩
    · obtain rfl := g1 (fun h => hp h.1)
      have hP := Lib.hid hp
      clear g1 g3 hp
      go_wp2_with fail
      refine (ascL_any ps a0 len0 cap0 w1 pr1 (by omega)).mono ?_
      rintro e w2 ⟨_, g2, hb⟩
      obtain rfl := g2 hP.out
      clear g2
      have hb2 := below_on hb1 hb
      clear hb1 hb pr1
      go_wp2_with fail
      refine (known_any _).mono ?_
      rintro e w3 ⟨rfl, hb⟩
      have hb3 := below_on hb2 hb
      clear hb2 hb
      go_wp2_with fail
      go_ret
      exact ⟨by simp, hb3.out⟩
end Go.Proofs.Ytlaocajjenfgpaa
