/- leapfroglaw21.has; the law GraceUnion, walked (printed by gen_lawuni.py). -/
import Derived.Test.YthkppihfdlmhgaaLawOver
import Derived.Deep.RegionHeld3
import Derived.Deep.DrawnRows
namespace Go.Proofs.Ythkppihfdlmhgaa
open Go Go.RowKit
set_option linter.unusedVariables false

set_option maxRecDepth 100000 in
set_option maxHeartbeats 4000000 in
theorem has_any (L : List Sec) (A : Option Addr) (n c : Nat) (s : Sec) (w : World) (hr : Hid (Reads w w.heap.size 4 A n (secs L))) (hn : n ≤ 65536) :
    Calls Try.prog 18 #[.slice A n c, seV s] w fun e w' => e = .returned (.bool (decide (s ∈ L))) ∧ Below w.heap.size w w' := by
  obtain ⟨t, v, en, ex⟩ := s
  have hl := Lib.hid (secs_n hr.out)
  have hE := Blk.new w 43 #[.int .i64 t, .int .u64 v, .int .i64 en, .int .i64 ex]
  have hb1 := Lib.hid ((Below.refl _ w).alloc (Nat.le_refl _) (.cells #[.int .i64 t, .int .u64 v, .int .i64 en, .int .i64 ex] 43))
  unfold seV
  dsimp only
  go_enter Try.func18, Try.ntmps18
  go_wp2_with fail
  obtain ⟨G, hG⟩ : ∃ G, G = w.heap.size := ⟨_, rfl⟩
  obtain ⟨W1, hW1⟩ : ∃ W1, W1 = w.alloc (.cells #[.int .i64 t, .int .u64 v, .int .i64 en, .int .i64 ex] 43) := ⟨_, rfl⟩
  rw [← hG] at hE ⊢
  rw [← hW1] at hE hb1 ⊢
  have hE1 := Lib.hid hE
  clear hW1 hE hG
  go_loopg [5] n (fun g i wr => ∃ (k q : Nat), k + g = n ∧ i = .int .i64 k ∧ wr = W1.drewN q ∧ Hid (∀ x ∈ L.take k, x ≠ ⟨t, v, en, ex⟩))
  case atStart => exact ⟨0, 0, by omega, rfl, rfl, fun x hx => by simp at hx⟩
  case round =>
    obtain ⟨k, q, hk, rfl, rfl, hno⟩ := hrel
    cases gk with
    | zero =>
      obtain rfl : k = n := by omega
      have hz : Hid (decide ((⟨t, v, en, ex⟩ : Sec) ∈ L) = false) := decide_eq_false fun hm => by
        have := hno.out
        rw [List.take_of_length_le (by rw [hl.out]; exact Nat.le_refl _)] at this
        exact this _ hm rfl
      clear hno
      go_wp2_with fail
      go_ret
      exact ⟨congrArg (fun b => Ending.returned (Value.bool b)) hz.out.symm, below_drewN hb1.out _⟩
    | succ g =>
      obtain ⟨b, o, rfl, hbB⟩ := reads_head hr.out (by omega) (by decide)
      obtain ⟨⟨st, sv, sn, sx⟩, he0, c0, c1, c2, c3⟩ := sec_at (hr.out.below hb1.out) (show k < n by omega)
      dsimp only at c0 c1 c2 c3
      have e0 := hE1.out.cell 0
      have e1 := hE1.out.cell 1
      have e2 := hE1.out.cell 2
      have e3 := hE1.out.cell 3
      simp only [List.getElem?_toArray, List.getElem?_cons_zero, List.getElem?_cons_succ] at e0 e1 e2 e3
      have k0 : (0 : Int) ≤ (k : Int) := by omega
      have k1 : (k : Int) < (n : Int) := by omega
      by_cases hc : (⟨st, sv, sn, sx⟩ : Sec) = ⟨t, v, en, ex⟩
      · injection hc with q1 q2 q3 q4
        subst q1 q2 q3 q4
        have hz : Hid (decide ((⟨st, sv, sn, sx⟩ : Sec) ∈ L) = true) := decide_eq_true (List.mem_of_getElem? he0)
        have heq : ∀ w, (Op.equalIn 10000 43 (.agg #[.int .i64 st, .int .u64 sv, .int .i64 sn, .int .i64 sx]) (.agg #[.int .i64 st, .int .u64 sv, .int .i64 sn, .int .i64 sx])).run Try.prog w = .ok true w := fun w => by rw [eqSe]; simp
        clear he0 hno
        go_wp2_with fail
        go_quiet (fail)
        go_wp2_with fail
        go_ret
        exact ⟨congrArg (fun b => Ending.returned (Value.bool b)) hz.out.symm, below_drewN (below_drewN hb1.out _) _⟩
      · have hno2 : Hid (∀ x ∈ L.take (k + 1), x ≠ ⟨t, v, en, ex⟩) := by
          intro x hx
          rw [List.take_add_one, he0, Option.toList_some] at hx
          rcases List.mem_append.1 hx with hx | hx
          · exact hno.out x hx
          · rw [List.mem_singleton.1 hx]; exact hc
        have heq : ∀ w, (Op.equalIn 10000 43 (.agg #[.int .i64 st, .int .u64 sv, .int .i64 sn, .int .i64 sx]) (.agg #[.int .i64 t, .int .u64 v, .int .i64 en, .int .i64 ex])).run Try.prog w = .ok false w := fun w => by
          rw [eqSe]
          have hd : decide ((⟨st, sv, sn, sx⟩ : Sec) = ⟨t, v, en, ex⟩) = false := decide_eq_false hc
          simp only [Sec.mk.injEq] at hc
          simp
          intro h1 h2 h3 h4
          exact hc ⟨h1, h2, h3, h4⟩
        clear he0 hno hc
        go_wp2_with fail
        go_quiet (fail)
        go_wp2_with fail
        go_roundg g
        case measure => omega
        case rel => exact ⟨k + 1, _, by omega, by go_num, rfl, hno2⟩

theorem or_word (a b : Int) (ha : 0 ≤ a) (ha1 : a < 18446744073709551616) (hb : 0 ≤ b) (hb1 : b < 18446744073709551616) :
    0 ≤ bits BinOp.or IntKind.u64 a b ∧ bits BinOp.or IntKind.u64 a b < 18446744073709551616 ∧ (a ≠ 0 → bits BinOp.or IntKind.u64 a b ≠ 0) ∧ ∀ v, inS (bits BinOp.or IntKind.u64 a b) v = (inS a v || inS b v) := by
  obtain ⟨x, rfl⟩ := Int.eq_ofNat_of_zero_le ha
  obtain ⟨y, rfl⟩ := Int.eq_ofNat_of_zero_le hb
  have hx : x < 18446744073709551616 := by omega
  have hy : y < 18446744073709551616 := by omega
  have ho := bits_or_u64_nat x y hx hy
  have hlt : x ||| y < 18446744073709551616 := Nat.or_lt_two_pow (n := 64) hx hy
  rw [ho]
  refine ⟨by omega, by omega, fun h h0 => h ?_, fun v => ?_⟩
  · have h1 : x ||| y = 0 := by omega
    have h2 : x ≤ x ||| y := Nat.left_le_or
    omega
  · unfold inS
    by_cases hv : v < 64
    · rw [decide_eq_true hv, Bool.true_and, Bool.true_and, Bool.true_and]
      have hb : ∀ m : Nat, decide ((m : Int) / 2 ^ v.toNat % 2 = 1) = m.testBit v.toNat := fun m => by
        rw [Nat.testBit_eq_decide_div_mod_eq]
        congr 1
        have : ((m : Int) / 2 ^ v.toNat % 2 = 1) ↔ (((m / 2 ^ v.toNat % 2 : Nat) : Int) = ((1 : Nat) : Int)) := by
          rw [Int.natCast_emod, Int.natCast_ediv, Int.natCast_pow]
          exact Iff.rfl
        rw [eq_iff_iff, this, Int.ofNat_inj]
      rw [hb, hb, hb, Nat.testBit_or]
    · rw [decide_eq_false hv]
      rfl
theorem due_or {t a b o : Int} (h : ∀ v, inS o v = (inS a v || inS b v)) (s : Sec) : dueB t o s = (dueB t a s || dueB t b s) := by
  unfold dueB
  rw [h]
  cases (decide (s.enter < t) && (decide (s.exit < 0) || decide (t ≤ s.exit))) <;> simp
theorem due_in {p : Sec → Bool} {L : List Sec} {k : Nat} {s : Sec} (h : L[k]? = some s) : decide (s ∈ L.filter p) = p s := by
  cases hp : p s with
  | true => exact decide_eq_true (List.mem_filter.2 ⟨List.mem_of_getElem? h, hp⟩)
  | false =>
    refine decide_eq_false fun hm => ?_
    have := (List.mem_filter.1 hm).2
    rw [hp] at this
    cases this
theorem due_parts {t o : Int} {s : Sec} (h : dueB t o s = true) : s.enter < t ∧ (s.exit < 0 ∨ t ≤ s.exit) := by
  unfold dueB at h
  simp only [Bool.and_eq_true, Bool.or_eq_true, decide_eq_true_eq] at h
  exact h.1
theorem ovEr_bad {l : List Ev} {t s : Int} (hf : ¬ FineTo l l.length) : ovEr l t s = 15 := by
  unfold ovEr
  rw [if_neg hf]
theorem ovEr_neg {l : List Ev} {t s : Int} (hf : FineTo l l.length) (ht : t < 0) : ovEr l t s = 3 := by
  unfold ovEr
  rw [if_pos hf, if_pos ht]
theorem ovEr_zero {l : List Ev} {t : Int} (hf : FineTo l l.length) (ht : ¬ t < 0) : ovEr l t 0 = 2 := by
  unfold ovEr
  rw [if_pos hf, if_neg ht, if_pos rfl]

set_option maxRecDepth 100000 in
set_option maxHeartbeats 8000000 in
theorem guni_core (t a b : Int) (A : Option Addr) (n c : Nat) (l : List Ev) (w : World) (hr : Hid (Reads w w.heap.size 4 A n (evs l))) (hnc : n ≤ c) (hc : c ≤ 9223372036854775807) (hw : WfE l) (ha0 : 0 ≤ a) (ha1 : a < 18446744073709551616) (hb00 : 0 ≤ b) (hb01 : b < 18446744073709551616) :
    Calls Try.prog 6 #[.slice A n c, .int .i64 t, .int .u64 a, .int .u64 b] w fun e w' => e = .returned (.bool true) ∧ Below w.heap.size w w' := by
  obtain ⟨L, hL⟩ : ∃ L, Hid (l.take 80 = L) := ⟨_, rfl⟩
  have hwL := Lib.hid (show WfE L by rw [← hL.out]; exact wf_take hw 80)
  have hlen : Hid (L.length ≤ 80) := by unfold Hid; rw [← hL.out, List.length_take]; omega
  obtain ⟨o0, o1, o2, o3⟩ := or_word a b ha0 ha1 hb00 hb01
  have hor := Lib.hid o3
  clear o3
  go_enter Try.func6, Try.ntmps6
  have hb0 : Hid (Below w.heap.size w w) := Below.refl _ _
  generalize hov : bits BinOp.or IntKind.u64 a b = ov at o0 o1 o2 hor
  go_wp2_with fail
  refine (few_at l A n c w hr hnc hc).mono ?_
  rintro e w1 ⟨A1, n1, c1, hE, hn, ho, hb⟩
  rw [hL.out] at hn ho
  have hm1 : n1 ≤ 80 := by have := hlen.out; omega
  clear hn
  subst hE
  obtain ⟨zz, hk1, hk1'⟩ := own_reads ho
  clear ho
  have hb1 := below_on hb0 hb
  have f1 := zz
  clear hb0 hb hr
  clear zz
  go_wp2_with fail
  refine (over_any L t a A1 n1 c1 w1 f1 (by omega) hwL.out ha0 ha1).mono ?_
  rintro e w2 ⟨A2, n2, c2, hE, hn, ho, hb⟩
  have hl2 := ovL_len L t a
  have hm2 : n2 ≤ 80 := by have := hlen.out; omega
  have hn2 := Lib.hid hn
  clear hn hl2
  subst hE
  obtain ⟨zz, kk, kk'⟩ := own_reads ho
  clear ho kk kk'
  have hb2 := below_on hb1 hb
  have f2 := reads_on f1 hb
  have x2 := zz
  clear hb1 hb f1
  clear zz
  go_wp2_with fail
  refine (over_any L t b A1 n1 c1 w2 f2 (by omega) hwL.out hb00 hb01).mono ?_
  rintro e w3 ⟨A3, n3, c3, hE, hn, ho, hb⟩
  have hl2 := ovL_len L t b
  have hm3 : n3 ≤ 80 := by have := hlen.out; omega
  have hn3 := Lib.hid hn
  clear hn hl2
  subst hE
  obtain ⟨zz, kk, kk'⟩ := own_reads ho
  clear ho kk kk'
  have hb3 := below_on hb2 hb
  have f3 := reads_on f2 hb
  have x3 := reads_on x2 hb
  have y3 := zz
  clear hb2 hb f2 x2
  clear zz
  generalize hea : ovEr L t a = ea
  generalize heb : ovEr L t b = eb
  have hea' := Lib.hid hea
  have heb' := Lib.hid heb
  clear hea heb
  go_wp2_with fail
  refine (over_any L t ov A1 n1 c1 w3 f3 (by omega) hwL.out o0 o1).mono ?_
  rintro e w4 ⟨A4, n4, c4, hE, hn, ho, hb⟩
  have hl2 := ovL_len L t ov
  have hm4 : n4 ≤ 80 := by have := hlen.out; omega
  have hn4 := Lib.hid hn
  clear hn hl2
  subst hE
  obtain ⟨zz, kk, kk'⟩ := own_reads ho
  clear ho kk kk'
  have hb4 := below_on hb3 hb
  have f4 := reads_on f3 hb
  have x4 := reads_on x3 hb
  have y4 := reads_on y3 hb
  have z4 := zz
  clear hb3 hb f3 x3 y3
  clear zz
  generalize heo : ovEr L t ov = eo
  have heo' := Lib.hid heo
  clear heo
  go_wp2_with fail
  refine (sections_at L A1 n1 c1 w4 f4 (by omega)).mono ?_
  rintro e w5 ⟨A5, n5, c5, hE, hn, ho, hb⟩
  have hl2 := secL_len' 1 L
  have hm5 : n5 ≤ 80 := by have := hlen.out; omega
  have hn5 := Lib.hid hn
  clear hn hl2
  obtain ⟨zz, kk, kk'⟩ := own_reads ho
  clear ho kk kk'
  have hb5 := below_on hb4 hb
  have x5 := reads_on x4 hb
  have y5 := reads_on y4 hb
  have z5 := reads_on z4 hb
  have s5 := zz
  clear hb4 hb f4 x4 y4 z4
  clear zz
  rcases errL_or L with ⟨hf, he⟩ | ⟨hf, he⟩
  · rw [he] at hE
    subst hE
    by_cases ht : t < 0
    · have h3 := hea'.out.symm.trans (ovEr_neg hf ht)
      subst h3
      clear x5 y5 z5 s5 hn2 hn3 hn4 hn5
      clear hf he hea' heb' heo'
      go_wp2_with fail
      refine (awake_any _).mono ?_
      rintro e w9 ⟨rfl, hb⟩
      have hb9 := below_on hb5 hb
      clear hb
      go_wp2_with fail
      go_ret
      exact ⟨rfl, hb9.out⟩
    · by_cases hza : a = 0
      · have h3 : ea = 2 := by rw [← hea'.out, hza]; exact ovEr_zero hf ht
        subst h3
        subst hza
        clear x5 y5 z5 s5 hn2 hn3 hn4 hn5
        clear hf he hea' heb' heo'
        go_wp2_with fail
        refine (awake_any _).mono ?_
        rintro e w9 ⟨rfl, hb⟩
        have hb9 := below_on hb5 hb
        clear hb
        go_wp2_with fail
        go_ret
        exact ⟨rfl, hb9.out⟩
      · have hza' : (a == 0) = false := by simpa using hza
        have h3 : ea = 0 := by rw [← hea'.out]; exact ovEr_ok hf ht hza
        subst h3
        by_cases hzb : b = 0
        · have h4 : eb = 2 := by rw [← heb'.out, hzb]; exact ovEr_zero hf ht
          subst h4
          subst hzb
          clear x5 y5 z5 s5 hn2 hn3 hn4 hn5
          clear hf he hea' heb' heo' hza
          go_wp2_with fail
          refine (awake_any _).mono ?_
          rintro e w9 ⟨rfl, hb⟩
          have hb9 := below_on hb5 hb
          clear hb
          go_wp2_with fail
          go_ret
          exact ⟨rfl, hb9.out⟩
        · have hzb' : (b == 0) = false := by simpa using hzb
          have h4 : eb = 0 := by rw [← heb'.out]; exact ovEr_ok hf ht hzb
          have h5 : eo = 0 := by rw [← heo'.out]; exact ovEr_ok hf ht (o2 hza)
          subst h4
          subst h5
          rw [ovL_ok hf ht hza] at hn2 x5
          rw [ovL_ok hf ht hzb] at hn3 y5
          rw [ovL_ok hf ht (o2 hza)] at hn4 z5
          rw [show secL 1 L = secsK 1 L from if_pos hf] at hn5 s5
          have hval := Lib.hid (fun s hs => ⟨0, hs⟩ : ∀ s ∈ secsK 1 L, ∃ q : Nat, s ∈ secsK 1 L)
          clear hf he hea' heb' heo' hza hzb hval
          generalize secsK 1 L = S at hn2 hn3 hn4 hn5 x5 y5 z5 s5
          as_aux_lemma =>
            obtain ⟨w8, rfl⟩ : ∃ w8 : World, w8 = w5 := ⟨_, rfl⟩
            go_wp2_with fail
            go_loopg [17, 18] n5 (fun g cn i wr => ∃ (k m : Nat), k + g = n5 ∧ i = .int .i64 k ∧ cn = .int .i64 m ∧ m ≤ k ∧ Hid (((S.take k).filter (dueB t ov)).length = m) ∧ Hid (Below w8.heap.size w8 wr))
            case atStart => exact ⟨0, 0, by omega, rfl, rfl, Nat.le_refl _, rfl, Below.refl _ _⟩
            case round =>
              obtain ⟨k, m, hk, rfl, rfl, hmk, hcnt, hbel⟩ := hrel
              cases gk with
              | zero =>
                obtain rfl : k = n5 := by omega
                have hz : (m : Int) = (n4 : Int) := by
                  have h1 := hcnt.out
                  rw [List.take_of_length_le (by have := hn5.out; omega)] at h1
                  have h2 := hn4.out
                  omega
                have hbz := below_on hb5 hbel.out
                clear hcnt hbel
                have hz2 : ((m : Int) == (n4 : Int)) = true := by simpa using hz
                have hz3 : m = n4 := by omega
                subst hz3
                clear hz hz2
                go_wp2_with fail
                refine (awake_any _).mono ?_
                rintro e w9 ⟨rfl, hb⟩
                have hb9 := below_on hbz hb
                clear hb
                go_wp2_with fail
                go_ret
                exact ⟨rfl, hb9.out⟩
              | succ g =>
                obtain ⟨b5, o5, rfl, hb5B⟩ := reads_head s5.out (by omega) (by decide)
                obtain ⟨⟨st, sv, sn, sx⟩, he0, c0, c1', c2', c3⟩ := sec_at (s5.out.below hbel.out) (show k < n5 by omega)
                have hft := filter_take (dueB t ov) he0
                have hdx := due_in (p := dueB t a) he0
                have hdy := due_in (p := dueB t b) he0
                have hdz := due_in (p := dueB t ov) he0
                have hdo := due_or (t := t) hor.out ⟨st, sv, sn, sx⟩
                have hsz := Lib.hid hbel.out.size
                have hbw : b5 < wr.heap.size := by have := hsz.out; omega
                dsimp only at c0 c1' c2' c3
                have k0 : (0 : Int) ≤ (k : Int) := by omega
                have k1 : (k : Int) < (n5 : Int) := by omega
                obtain ⟨WB, hWB⟩ : ∃ WB, wr.alloc (.cells #[.int .i64 st, .int .u64 sv, .int .i64 sn, .int .i64 sx] 43) = WB := ⟨_, rfl⟩
                obtain ⟨BX, hBX⟩ : ∃ BX, wr.heap.size = BX := ⟨_, rfl⟩
                have hX : Hid (Blk WB BX 43 #[.int .i64 st, .int .u64 sv, .int .i64 sn, .int .i64 sx]) := by rw [← hWB, ← hBX]; exact Blk.new wr _ _
                have hbB : Hid (Below w8.heap.size w8 WB.drew) := by rw [← hWB]; exact (hbel.out.alloc hsz.out _).drew
                have hlt : BX < WB.drew.heap.size := hX.out.lt
                have e0 := hX.out.cell 0
                have e1 := hX.out.cell 1
                have e2 := hX.out.cell 2
                have e3 := hX.out.cell 3
                simp only [List.getElem?_toArray, List.getElem?_cons_zero, List.getElem?_cons_succ] at e0 e1 e2 e3
                have rx0 := reads_on x5 hbB.out
                have ry0 := reads_on y5 hbB.out
                have rz0 := reads_on z5 hbB.out
                go_wp2_with fail
                try rw [hWB]
                try rw [hBX]
                clear hWB hBX hX he0 c0 c1' c2' c3 hbel hsz hbw
                cases hpx : dueB t a ⟨st, sv, sn, sx⟩ with
                | true =>
                  have hpz : dueB t ov ⟨st, sv, sn, sx⟩ = true := by rw [hdo, hpx]; rfl
                  rw [hpx] at hdx
                  rw [hpz] at hdz hft
                  clear hdy hdo
                  as_aux_lemma =>
                    have hasX : ∀ W, Hid (Reads W W.heap.size 4 A2 n2 (secs (S.filter (dueB t a)))) → Calls Try.prog 18 #[.slice A2 n2 c2, .agg #[.int .i64 st, .int .u64 sv, .int .i64 sn, .int .i64 sx]] W fun e w' => e = .returned (.bool true) ∧ Below W.heap.size W w' := fun W h =>
                      (has_any (S.filter (dueB t a)) A2 n2 c2 ⟨st, sv, sn, sx⟩ W h (by omega)).mono fun e w' ⟨he, hb⟩ => ⟨he.trans (congrArg (fun b => Ending.returned (Value.bool b)) hdx), hb⟩
                    have hasZ : ∀ W, Hid (Reads W W.heap.size 4 A4 n4 (secs (S.filter (dueB t ov)))) → Calls Try.prog 18 #[.slice A4 n4 c4, .agg #[.int .i64 st, .int .u64 sv, .int .i64 sn, .int .i64 sx]] W fun e w' => e = .returned (.bool true) ∧ Below W.heap.size W w' := fun W h =>
                      (has_any (S.filter (dueB t ov)) A4 n4 c4 ⟨st, sv, sn, sx⟩ W h (by omega)).mono fun e w' ⟨he, hb⟩ => ⟨he.trans (congrArg (fun b => Ending.returned (Value.bool b)) hdz), hb⟩
                    go_wp2_with fail
                    first
                      | (go_region_with (first
                        | (go_at_call 18; (with_reducible refine (hasZ WB.drew rz0).mono ?_); rintro e w5 ⟨rfl, h5⟩; have rx5 := reads_on rx0 h5; have ry5 := reads_on ry0 h5; have rz5 := reads_on rz0 h5; have p0 := (h5.cell (p := ⟨BX, 0, none⟩) hlt).trans e0; have p1 := (h5.cell (p := ⟨BX, 1, none⟩) hlt).trans e1; have p2 := (h5.cell (p := ⟨BX, 2, none⟩) hlt).trans e2; have p3 := (h5.cell (p := ⟨BX, 3, none⟩) hlt).trans e3; have lt5 : BX < w5.heap.size := Nat.lt_of_lt_of_le hlt h5.size)
                        | (go_at_call 18; (with_reducible refine (hasX w5 rx5).mono ?_); rintro e w6 ⟨rfl, h6⟩; have ry6 := reads_on ry5 h6; have rz6 := reads_on rz5 h6; have q0 := (h6.cell (p := ⟨BX, 0, none⟩) lt5).trans p0; have q1 := (h6.cell (p := ⟨BX, 1, none⟩) lt5).trans p1; have q2 := (h6.cell (p := ⟨BX, 2, none⟩) lt5).trans p2; have q3 := (h6.cell (p := ⟨BX, 3, none⟩) lt5).trans p3; have lt6 : BX < w6.heap.size := Nat.lt_of_lt_of_le lt5 h6.size)))
                      | fail
                    all_goals
                      have hbl : Hid (Below w8.heap.size w8 w6) := below_on (below_on hbB h5) h6
                      clear rx5 ry5 rz5 p0 p1 p2 p3 e0 e1 e2 e3 ry6 h5 h6
                      go_wp2_with fail
                      refine (hasZ w6 rz6).mono ?_
                      rintro e w10 ⟨rfl, hb⟩
                      have hbl2 := below_on hbl hb
                      have g0 := (hb.cell (p := ⟨BX, 0, none⟩) lt6).trans q0
                      have g1 := (hb.cell (p := ⟨BX, 1, none⟩) lt6).trans q1
                      have g2 := (hb.cell (p := ⟨BX, 2, none⟩) lt6).trans q2
                      have g3 := (hb.cell (p := ⟨BX, 3, none⟩) lt6).trans q3
                      clear hb hbl rz6 q0 q1 q2 q3 hasX hasZ
                      have hS2 : Hid (((S.take (k + 1)).filter (dueB t ov)).length = m + 1) := by
                        unfold Hid
                        rw [hft, if_pos trivial, List.length_append, hcnt.out]
                        all_goals rfl
                      clear hft hcnt
                      obtain ⟨v1, v2⟩ := due_parts hpz
                      dsimp only at v1 v2
                      have m0 : IntKind.i64.wrap ((m : Int) + 1) = (m : Int) + 1 := wrap_i64 (by omega) (by omega)
                      have v3 : ¬ t ≤ sn := by omega
                      rcases v2 with v2 | v2
                      · have v4 : ¬ 0 ≤ sx := by omega
                        go_wp2_with fail
                        go_roundg g
                        case measure => omega
                        case rel => exact ⟨k + 1, m + 1, by omega, by go_num, by go_num, by omega, hS2, hbl2⟩
                      · have v4 : ¬ sx < t := by omega
                        have v5 : 0 ≤ sx := by omega
                        go_wp2_with fail
                        go_roundg g
                        case measure => omega
                        case rel => exact ⟨k + 1, m + 1, by omega, by go_num, by go_num, by omega, hS2, hbl2⟩
                | false =>
                  cases hpy : dueB t b ⟨st, sv, sn, sx⟩ with
                  | true =>
                    have hpz : dueB t ov ⟨st, sv, sn, sx⟩ = true := by rw [hdo, hpx, hpy]; rfl
                    rw [hpx] at hdx
                    rw [hpy] at hdy
                    rw [hpz] at hdz hft
                    clear hdo
                    as_aux_lemma =>
                      have hasX : ∀ W, Hid (Reads W W.heap.size 4 A2 n2 (secs (S.filter (dueB t a)))) → Calls Try.prog 18 #[.slice A2 n2 c2, .agg #[.int .i64 st, .int .u64 sv, .int .i64 sn, .int .i64 sx]] W fun e w' => e = .returned (.bool false) ∧ Below W.heap.size W w' := fun W h =>
                        (has_any (S.filter (dueB t a)) A2 n2 c2 ⟨st, sv, sn, sx⟩ W h (by omega)).mono fun e w' ⟨he, hb⟩ => ⟨he.trans (congrArg (fun b => Ending.returned (Value.bool b)) hdx), hb⟩
                      have hasY : ∀ W, Hid (Reads W W.heap.size 4 A3 n3 (secs (S.filter (dueB t b)))) → Calls Try.prog 18 #[.slice A3 n3 c3, .agg #[.int .i64 st, .int .u64 sv, .int .i64 sn, .int .i64 sx]] W fun e w' => e = .returned (.bool true) ∧ Below W.heap.size W w' := fun W h =>
                        (has_any (S.filter (dueB t b)) A3 n3 c3 ⟨st, sv, sn, sx⟩ W h (by omega)).mono fun e w' ⟨he, hb⟩ => ⟨he.trans (congrArg (fun b => Ending.returned (Value.bool b)) hdy), hb⟩
                      have hasZ : ∀ W, Hid (Reads W W.heap.size 4 A4 n4 (secs (S.filter (dueB t ov)))) → Calls Try.prog 18 #[.slice A4 n4 c4, .agg #[.int .i64 st, .int .u64 sv, .int .i64 sn, .int .i64 sx]] W fun e w' => e = .returned (.bool true) ∧ Below W.heap.size W w' := fun W h =>
                        (has_any (S.filter (dueB t ov)) A4 n4 c4 ⟨st, sv, sn, sx⟩ W h (by omega)).mono fun e w' ⟨he, hb⟩ => ⟨he.trans (congrArg (fun b => Ending.returned (Value.bool b)) hdz), hb⟩
                      go_wp2_with fail
                      go_region_held3 (fun w' => w'.cell? ⟨BX, 0, none⟩ = some (.int .i64 st) ∧ w'.cell? ⟨BX, 1, none⟩ = some (.int .u64 sv) ∧ w'.cell? ⟨BX, 2, none⟩ = some (.int .i64 sn) ∧ w'.cell? ⟨BX, 3, none⟩ = some (.int .i64 sx))
                        (first
                          | exact ⟨e0, e1, e2, e3⟩
                          | exact ⟨p0, p1, p2, p3⟩
                          | exact ⟨q0, q1, q2, q3⟩
                          | exact ⟨r0, r1, r2, r3⟩)
                        ((first
                          | (go_at_call 18; (with_reducible refine (hasZ WB.drew rz0).mono ?_); rintro e w5 ⟨rfl, h5⟩; have rx5 := reads_on rx0 h5; have ry5 := reads_on ry0 h5; have rz5 := reads_on rz0 h5; have p0 := (h5.cell (p := ⟨BX, 0, none⟩) hlt).trans e0; have p1 := (h5.cell (p := ⟨BX, 1, none⟩) hlt).trans e1; have p2 := (h5.cell (p := ⟨BX, 2, none⟩) hlt).trans e2; have p3 := (h5.cell (p := ⟨BX, 3, none⟩) hlt).trans e3; have lt5 : BX < w5.heap.size := Nat.lt_of_lt_of_le hlt h5.size)
                          | (go_at_call 18; (with_reducible refine (hasX w5 rx5).mono ?_); rintro e w6 ⟨rfl, h6⟩; have ry6 := reads_on ry5 h6; have rz6 := reads_on rz5 h6; have q0 := (h6.cell (p := ⟨BX, 0, none⟩) lt5).trans p0; have q1 := (h6.cell (p := ⟨BX, 1, none⟩) lt5).trans p1; have q2 := (h6.cell (p := ⟨BX, 2, none⟩) lt5).trans p2; have q3 := (h6.cell (p := ⟨BX, 3, none⟩) lt5).trans p3; have lt6 : BX < w6.heap.size := Nat.lt_of_lt_of_le lt5 h6.size)
                          | (go_at_call 18; (with_reducible refine (hasY w6 ry6).mono ?_); rintro e w7 ⟨rfl, h7⟩; have rz7 := reads_on rz6 h7; have r0 := (h7.cell (p := ⟨BX, 0, none⟩) lt6).trans q0; have r1 := (h7.cell (p := ⟨BX, 1, none⟩) lt6).trans q1; have r2 := (h7.cell (p := ⟨BX, 2, none⟩) lt6).trans q2; have r3 := (h7.cell (p := ⟨BX, 3, none⟩) lt6).trans q3; have lt7 : BX < w7.heap.size := Nat.lt_of_lt_of_le lt6 h7.size)))
                      have hbl : Hid (Below w8.heap.size w8 w7) := below_on (below_on (below_on hbB h5) h6) h7
                      clear rx5 ry5 rz5 p0 p1 p2 p3 e0 e1 e2 e3 ry6 rz6 q0 q1 q2 q3 h7 h5 h6
                      go_wp2_with fail
                      refine (hasZ w7 rz7).mono ?_
                      rintro e w10 ⟨rfl, hb⟩
                      have hbl2 := below_on hbl hb
                      have g0 := (hb.cell (p := ⟨BX, 0, none⟩) lt7).trans r0
                      have g1 := (hb.cell (p := ⟨BX, 1, none⟩) lt7).trans r1
                      have g2 := (hb.cell (p := ⟨BX, 2, none⟩) lt7).trans r2
                      have g3 := (hb.cell (p := ⟨BX, 3, none⟩) lt7).trans r3
                      clear hb hbl rz7 r0 r1 r2 r3 hasX hasZ hasY
                      have hS2 : Hid (((S.take (k + 1)).filter (dueB t ov)).length = m + 1) := by
                        unfold Hid
                        rw [hft, if_pos trivial, List.length_append, hcnt.out]
                        all_goals rfl
                      clear hft hcnt
                      obtain ⟨v1, v2⟩ := due_parts hpz
                      dsimp only at v1 v2
                      have m0 : IntKind.i64.wrap ((m : Int) + 1) = (m : Int) + 1 := wrap_i64 (by omega) (by omega)
                      have v3 : ¬ t ≤ sn := by omega
                      rcases v2 with v2 | v2
                      · have v4 : ¬ 0 ≤ sx := by omega
                        go_wp2_with fail
                        go_roundg g
                        case measure => omega
                        case rel => exact ⟨k + 1, m + 1, by omega, by go_num, by go_num, by omega, hS2, hbl2⟩
                      · have v4 : ¬ sx < t := by omega
                        have v5 : 0 ≤ sx := by omega
                        go_wp2_with fail
                        go_roundg g
                        case measure => omega
                        case rel => exact ⟨k + 1, m + 1, by omega, by go_num, by go_num, by omega, hS2, hbl2⟩
                  | false =>
                    have hpz : dueB t ov ⟨st, sv, sn, sx⟩ = false := by rw [hdo, hpx, hpy]; rfl
                    rw [hpx] at hdx
                    rw [hpy] at hdy
                    rw [hpz] at hdz hft
                    clear hdo
                    as_aux_lemma =>
                      have hasX : ∀ W, Hid (Reads W W.heap.size 4 A2 n2 (secs (S.filter (dueB t a)))) → Calls Try.prog 18 #[.slice A2 n2 c2, .agg #[.int .i64 st, .int .u64 sv, .int .i64 sn, .int .i64 sx]] W fun e w' => e = .returned (.bool false) ∧ Below W.heap.size W w' := fun W h =>
                        (has_any (S.filter (dueB t a)) A2 n2 c2 ⟨st, sv, sn, sx⟩ W h (by omega)).mono fun e w' ⟨he, hb⟩ => ⟨he.trans (congrArg (fun b => Ending.returned (Value.bool b)) hdx), hb⟩
                      have hasY : ∀ W, Hid (Reads W W.heap.size 4 A3 n3 (secs (S.filter (dueB t b)))) → Calls Try.prog 18 #[.slice A3 n3 c3, .agg #[.int .i64 st, .int .u64 sv, .int .i64 sn, .int .i64 sx]] W fun e w' => e = .returned (.bool false) ∧ Below W.heap.size W w' := fun W h =>
                        (has_any (S.filter (dueB t b)) A3 n3 c3 ⟨st, sv, sn, sx⟩ W h (by omega)).mono fun e w' ⟨he, hb⟩ => ⟨he.trans (congrArg (fun b => Ending.returned (Value.bool b)) hdy), hb⟩
                      have hasZ : ∀ W, Hid (Reads W W.heap.size 4 A4 n4 (secs (S.filter (dueB t ov)))) → Calls Try.prog 18 #[.slice A4 n4 c4, .agg #[.int .i64 st, .int .u64 sv, .int .i64 sn, .int .i64 sx]] W fun e w' => e = .returned (.bool false) ∧ Below W.heap.size W w' := fun W h =>
                        (has_any (S.filter (dueB t ov)) A4 n4 c4 ⟨st, sv, sn, sx⟩ W h (by omega)).mono fun e w' ⟨he, hb⟩ => ⟨he.trans (congrArg (fun b => Ending.returned (Value.bool b)) hdz), hb⟩
                      go_wp2_with fail
                      go_region_held3 (fun w' => w'.cell? ⟨BX, 0, none⟩ = some (.int .i64 st) ∧ w'.cell? ⟨BX, 1, none⟩ = some (.int .u64 sv) ∧ w'.cell? ⟨BX, 2, none⟩ = some (.int .i64 sn) ∧ w'.cell? ⟨BX, 3, none⟩ = some (.int .i64 sx))
                        (first
                          | exact ⟨e0, e1, e2, e3⟩
                          | exact ⟨p0, p1, p2, p3⟩
                          | exact ⟨q0, q1, q2, q3⟩
                          | exact ⟨r0, r1, r2, r3⟩)
                        ((first
                          | (go_at_call 18; (with_reducible refine (hasZ WB.drew rz0).mono ?_); rintro e w5 ⟨rfl, h5⟩; have rx5 := reads_on rx0 h5; have ry5 := reads_on ry0 h5; have rz5 := reads_on rz0 h5; have p0 := (h5.cell (p := ⟨BX, 0, none⟩) hlt).trans e0; have p1 := (h5.cell (p := ⟨BX, 1, none⟩) hlt).trans e1; have p2 := (h5.cell (p := ⟨BX, 2, none⟩) hlt).trans e2; have p3 := (h5.cell (p := ⟨BX, 3, none⟩) hlt).trans e3; have lt5 : BX < w5.heap.size := Nat.lt_of_lt_of_le hlt h5.size)
                          | (go_at_call 18; (with_reducible refine (hasX w5 rx5).mono ?_); rintro e w6 ⟨rfl, h6⟩; have ry6 := reads_on ry5 h6; have rz6 := reads_on rz5 h6; have q0 := (h6.cell (p := ⟨BX, 0, none⟩) lt5).trans p0; have q1 := (h6.cell (p := ⟨BX, 1, none⟩) lt5).trans p1; have q2 := (h6.cell (p := ⟨BX, 2, none⟩) lt5).trans p2; have q3 := (h6.cell (p := ⟨BX, 3, none⟩) lt5).trans p3; have lt6 : BX < w6.heap.size := Nat.lt_of_lt_of_le lt5 h6.size)
                          | (go_at_call 18; (with_reducible refine (hasY w6 ry6).mono ?_); rintro e w7 ⟨rfl, h7⟩; have rz7 := reads_on rz6 h7; have r0 := (h7.cell (p := ⟨BX, 0, none⟩) lt6).trans q0; have r1 := (h7.cell (p := ⟨BX, 1, none⟩) lt6).trans q1; have r2 := (h7.cell (p := ⟨BX, 2, none⟩) lt6).trans q2; have r3 := (h7.cell (p := ⟨BX, 3, none⟩) lt6).trans q3; have lt7 : BX < w7.heap.size := Nat.lt_of_lt_of_le lt6 h7.size)))
                      have hbl : Hid (Below w8.heap.size w8 w7) := below_on (below_on (below_on hbB h5) h6) h7
                      clear rx5 ry5 rz5 p0 p1 p2 p3 e0 e1 e2 e3 ry6 rz6 q0 q1 q2 q3 h7 h5 h6
                      go_wp2_with fail
                      refine (hasZ w7 rz7).mono ?_
                      rintro e w10 ⟨rfl, hb⟩
                      have hbl2 := below_on hbl hb
                      have g0 := (hb.cell (p := ⟨BX, 0, none⟩) lt7).trans r0
                      have g1 := (hb.cell (p := ⟨BX, 1, none⟩) lt7).trans r1
                      have g2 := (hb.cell (p := ⟨BX, 2, none⟩) lt7).trans r2
                      have g3 := (hb.cell (p := ⟨BX, 3, none⟩) lt7).trans r3
                      clear hb hbl rz7 r0 r1 r2 r3 hasX hasZ hasY
                      have hS2 : Hid (((S.take (k + 1)).filter (dueB t ov)).length = m) := by
                        unfold Hid
                        rw [hft, if_neg (by decide), hcnt.out]
                        all_goals rfl
                      clear hft hcnt
                      go_wp2_with fail
                      go_roundg g
                      case measure => omega
                      case rel => exact ⟨k + 1, m, by omega, by go_num, rfl, by omega, hS2, hbl2⟩
  · have h3 : ea = 15 := by rw [← hea'.out]; exact ovEr_bad hf
    subst h3
    rw [he] at hE
    subst hE
    clear x5 y5 z5 s5 hn2 hn3 hn4 hn5
    clear hf he hea' heb' heo'
    go_wp2_with fail
    refine (awake_any _).mono ?_
    rintro e w9 ⟨rfl, hb⟩
    have hb9 := below_on hb5 hb
    clear hb
    go_wp2_with fail
    go_ret
    exact ⟨rfl, hb9.out⟩
theorem gunion_law (A : Option Addr) (n c : Nat) (l : List Ev) (t a b : Int) (w : World) (hI : IsEvents w A n c l) (wt : (Lit.int .i64 t).wf = true) (wa : (Lit.int .u64 a).wf = true) (wb : (Lit.int .u64 b).wf = true) :
    Calls Try.prog 6 #[.slice A n c, .int .i64 t, .int .u64 a, .int .u64 b] w fun e w' => e = .returned (.bool true) ∧ Below w.heap.size w w' :=
  guni_core t a b A n c l w hI.reads hI.le (by have := hI.cap; unfold maxLen at this; exact this) (wf_ev hI) (u64_wf wa).1 (u64_wf wa).2 (u64_wf wb).1 (u64_wf wb).2
end Go.Proofs.Ythkppihfdlmhgaa
