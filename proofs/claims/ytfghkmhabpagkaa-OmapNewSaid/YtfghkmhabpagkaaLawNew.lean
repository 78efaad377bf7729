/- The law OmapNew, walked (printed by gen_lawnew.py). -/
import Derived.Test.YtfghkmhabpagkaaRSetLo
import Derived.Test.YtfghkmhabpagkaaLawKeep
import Derived.Test.YtfghkmhabpagkaaONil
import Derived.Test.YtfghkmhabpagkaaORng
namespace Go.Proofs.Ytfghkmhabpagkaa
open Go Go.RowKit
set_option linter.unusedVariables false

def RAs (w : World) (g q : Nat) : Prop := q ≠ g ∧ ∀ A n c, Blk w g 85 #[.slice A n c] → ∀ ad, A = some ad → 0 < n → ad.block ≠ q
/-- Both maps, and blocks that are neither's. -/
structure NSt (W wr : World) (g : Nat) (v : Value) (g' : Nat) (S : List Pr) (Q : Nat → Prop) : Prop where
  m : MapAt W wr g v S
  r : IsM wr g' S
  far : ∀ q, Q q → W.heap.size ≤ q ∧ Aside wr g v q ∧ RAs wr g' q
theorem slice_inj {A A' : Option Addr} {n n' c c' : Nat} (h : (#[Value.slice A n c] : Array Value) = #[.slice A' n' c']) : A = A' ∧ n = n' := by
  have h2 := congrArg (fun a : Array Value => a[0]?) h
  simp at h2
  exact ⟨h2.1, h2.2.1⟩
theorem ras_keep {w w' : World} {g q : Nat} {S : List Pr} (hr : IsM w g S) (h : RAs w g q) (hb : ∀ cs, Blk w g 85 cs → Blk w' g 85 cs) : RAs w' g q := by
  refine ⟨h.1, fun A n c hB ad e hn => ?_⟩
  obtain ⟨A0, n0, c0, hB0, _⟩ := hr
  obtain ⟨e1, e2⟩ := slice_inj (blk_same (hb _ hB0) hB)
  exact h.2 A0 n0 c0 hB0 ad (e1.trans e) (by omega)
theorem NSt.below {W w w' : World} {g g' : Nat} {v : Value} {S : List Pr} {Q : Nat → Prop} (h : NSt W w g v g' S Q) (hb : Below w.heap.size w w') : NSt W w' g v g' S Q :=
  ⟨h.m.below hb, h.r.below hb, fun q hq => ⟨(h.far q hq).1, (h.far q hq).2.1.on (Stays.of_below hb), ras_keep h.r (h.far q hq).2.2 fun cs hB => hB.below hb hB.lt⟩⟩
theorem nst_on {W w w' : World} {g g' : Nat} {v : Value} {S : List Pr} {Q : Nat → Prop} (h : Hid (NSt W w g v g' S Q)) (hb : Below w.heap.size w w') : Hid (NSt W w' g v g' S Q) := h.out.below hb
theorem NSt.set_ {W w : World} {g g' q : Nat} {v : Value} {S : List Pr} {Q : Nat → Prop} (h : NSt W w g v g' S Q) (hq : Q q) (i : Nat) (u : Value) : NSt W (w.setCell ⟨q, i, none⟩ u) g v g' S Q := by
  obtain ⟨f1, f2, f3⟩ := h.far q hq
  refine ⟨h.m.set_far f2 f1, ?_, fun p hp => ⟨(h.far p hp).1, (h.far p hp).2.1.set_, ras_keep h.r (h.far p hp).2.2 fun cs hB => hB.far (Ne.symm f3.1) u⟩⟩
  obtain ⟨A, n, c, hB, hr, h1, h2, h3⟩ := h.r
  refine ⟨A, n, c, hB.far (Ne.symm f3.1) u, ⟨hr.1, fun hn => ?_⟩, h1, h2, h3⟩
  obtain ⟨ad, e, hb, hc⟩ := hr.2 hn
  refine ⟨ad, e, by simpa using hb, fun j x hx => ?_⟩
  rw [cell_block j (Below.heap_setCell w ⟨q, i, none⟩ u ad.block (f3.2 A n c hB ad e hn))]
  exact hc j x hx
theorem NSt.add {W w w' : World} {g g' n c : Nat} {v : Value} {S : List Pr} {Q : Nat → Prop} {A : Option Addr} {xs : List Value} (h : NSt W w g v g' S Q) (hb : Below w.heap.size w w') (ho : w'.ownsRow w.heap.size 38 2 (.slice A n c) n xs) :
    NSt W w' g v g' S (fun q => Q q ∨ (A = some ⟨q, 0, none⟩ ∧ 0 < n)) := by
  have h' := h.below hb
  refine ⟨h'.m, h'.r, fun q hq => ?_⟩
  rcases hq with hq | ⟨rfl, hn⟩
  · exact h'.far q hq
  · have hl := ho.lt q rfl
    have hs := h.m.bel.size
    refine ⟨by omega, aside_new h.m hl.1 hl.2, ⟨?_, fun A0 n0 c0 hB ad e hn0 => ?_⟩⟩
    · have := h.r.lt; omega
    · obtain ⟨A1, n1, c1, hB1, hr1, _⟩ := h.r
      obtain ⟨e1, e2⟩ := slice_inj (blk_same (hB1.below hb hB1.lt) hB)
      obtain ⟨ad1, e3, hb1, _⟩ := hr1.2 (by omega)
      rw [e1, e] at e3
      have := Option.some.inj e3
      rw [← this] at hb1
      omega
/-- A slice of pairs that may be overwritten. -/
def WrP (w : World) (A : Option Addr) (n : Nat) (Q : Nat → Prop) : Prop := n = 0 ∨ ∃ q cs, A = some ⟨q, 0, none⟩ ∧ Q q ∧ Blk w q 38 cs ∧ n * 2 ≤ cs.size
theorem wrP_on {w w' : World} {A : Option Addr} {n : Nat} {Q : Nat → Prop} (h : Hid (WrP w A n Q)) (hb : Below w.heap.size w w') : Hid (WrP w' A n Q) := by
  rcases h.out with h | ⟨q, cs, h1, h2, h3, h4⟩
  · exact .inl h
  · exact .inr ⟨q, cs, h1, h2, h3.below hb h3.lt, h4⟩
theorem WrP.wide {w : World} {A : Option Addr} {n : Nat} {Q Q' : Nat → Prop} (h : WrP w A n Q) (hq : ∀ q, Q q → Q' q) : WrP w A n Q' := by
  rcases h with h | ⟨q, cs, h1, h2, h3⟩
  · exact .inl h
  · exact .inr ⟨q, cs, h1, hq q h2, h3⟩
theorem WrP.of_own {w : World} {A : Option Addr} {n c base : Nat} {xs : List Value} (h : w.ownsRow base 38 2 (.slice A n c) n xs) : WrP w A n (fun q => A = some ⟨q, 0, none⟩ ∧ 0 < n) := by
  rcases h.2 with ⟨h0, h1⟩ | ⟨g, cap, cur, h0, hg, hh, hn, _, hs, _⟩
  · exact .inl (by omega)
  · injection h0 with h1 h2 h3
    by_cases h4 : n = 0
    · exact .inl h4
    · exact .inr ⟨g, cur, h1, ⟨h1, by omega⟩, hh, by rw [hs]; omega⟩
theorem WrP.set {w : World} {A : Option Addr} {n : Nat} {Q : Nat → Prop} (h : WrP w A n Q) (g k : Nat) (u : Value) : WrP (w.setCell ⟨g, k, none⟩ u) A n Q := by
  rcases h with h | ⟨q, cs, h1, h2, h3, h4⟩
  · exact .inl h
  · by_cases hg : q = g
    · subst hg
      exact .inr ⟨q, _, h1, h2, h3.set_ k u, by simpa using h4⟩
    · exact .inr ⟨q, cs, h1, h2, h3.far hg u, h4⟩
theorem WrP.at_ {w : World} {A : Option Addr} {n k : Nat} {Q : Nat → Prop} (h : WrP w A n Q) (hk : k < n) : ∃ q u0 u1, A = some ⟨q, 0, none⟩ ∧ Q q ∧ w.cell? ⟨q, k * 2, none⟩ = some u0 ∧ w.cell? ⟨q, k * 2 + 1, none⟩ = some u1 ∧ w.frozen? ⟨q, k * 2, none⟩ = false ∧ w.frozen? ⟨q, k * 2 + 1, none⟩ = false := by
  rcases h with h | ⟨q, cs, h1, h2, h3, h4⟩
  · omega
  · exact ⟨q, cs[k * 2], cs[k * 2 + 1], h1, h2, by rw [h3.cell]; exact Array.getElem?_eq_getElem (by omega), by rw [h3.cell]; exact Array.getElem?_eq_getElem (by omega), h3.frozen _, h3.frozen _⟩

set_option maxRecDepth 100000 in
set_option maxHeartbeats 16000000 in
theorem new_core (A : Option Addr) (n c : Nat) (l : List Pr) (lo hi : Int) (w : World) (hr : Hid (Reads w w.heap.size 2 A n (prs l))) :
    Calls Try.prog 5 #[.slice A n c, .agg #[.int .u64 lo, .int .u64 hi]] w fun e w' => e = .returned (.bool true) ∧ Below w.heap.size w w' := by
  have hll := Lib.hid (prs_n hr.out)
  obtain ⟨i0, hi0, hz0, hz1, hz2⟩ := info_parts infoPair
  obtain ⟨W, hW⟩ : ∃ W, w.alloc (.cells #[.int .u64 lo, .int .u64 hi] 25) = W := ⟨_, rfl⟩
  have hb0 : Hid (Below w.heap.size w W) := by rw [← hW]; exact (Below.refl _ _).alloc (Nat.le_refl _) _
  have hBs : Hid (Blk W w.heap.size 25 #[.int .u64 lo, .int .u64 hi]) := by rw [← hW]; exact Blk.new w _ _
  have hr0 : Hid (Reads W W.heap.size 2 A n (prs l)) := (hr.out.below hb0.out).more hb0.out.size
  clear hr
  by_cases t1 : 60 < n
  · have d1 : (60 : Int) < (n : Int) := by omega
    go_enter Try.func5, Try.ntmps5
    go_wp2_with fail
    refine (known_any _).mono ?_
    rintro e w2 ⟨rfl, hb⟩
    have hbe := below_on hb0 hb
    clear hb
    go_wp2_with fail
    go_ret
    exact ⟨rfl, hbe.out⟩
  · have d1 : ¬ (60 : Int) < (n : Int) := by omega
    go_enter Try.func5, Try.ntmps5
    go_wp2_with (at_builtin; refine wpList_append_any _ rfl (.tmp 20) (.tmp 21) 22 rfl W.heap.size 38 i0 _ 2 16 Try.underlying22 hi0 hz0 hz1 hz2 rfl (by decide) (.slice (some ⟨W.heap.size, 0, none⟩) 0 0) 0 [] rfl (own_lit W #[] 0 _ rfl (Nat.le_refl _) (Nat.zero_le _) rfl) W.heap.size A n c (prs l) rfl (hr0.out.alloc (Nat.le_refl _) _) (prs_one _) (by unfold maxLen; omega) (by omega) (by simp) ?_; intro v1 w1 hown1 hg1 hat1; rw [Nat.zero_add, List.nil_append] at hown1; obtain ⟨XA, XC, rfl, hcx, hcx'⟩ := own_form hown1)
    have hb1 : Hid (Below W.heap.size W w1) := ((Below.refl _ _).alloc (Nat.le_refl _) _).grown hg1 (by simp) (fun q hq => by simp [Value.ownBlock] at hq; omega)
    have hx1 : Hid (Reads w1 w1.heap.size 2 XA n (prs l)) := Reads.of_own hown1
    have hr1 := reads_on hr0 hb1.out
    have hxo := Lib.hid hown1
    clear hown1 hg1 hat1 hcx hcx' hr0 hW
    go_wp2_with fail
    refine (newO_any l XA n XC w1 hx1 (by omega)).mono ?_
    rintro e w2 ⟨hb, ⟨hnd, g, v, rfl, ho⟩ | ⟨hnd, rfl⟩⟩
    · as_aux_lemma =>
        have hb2 := below_on hb1 hb
        have hr2 := reads_on hr1 hb
        have hx2 := reads_on hx1 hb
        have m2 : Hid (MapAt W w2 g v (puts [] l)) := mapAt_new hb1.out ho hb
        have wx2 := wrP_on (Lib.hid (WrP.of_own hxo.out)) hb
        have hglo : Hid (w1.heap.size ≤ g) := ho.lo
        have hvlo : Hid (∀ q, v.ownBlock = some q → w1.heap.size ≤ q) := ho.row_lo
        have hs12 := Lib.hid hb.size
        clear hb hr1 hx1 ho
        obtain ⟨S, hS⟩ : ∃ S, puts [] l = S := ⟨_, rfl⟩
        have hS60 : S.length ≤ 60 := by rw [← hS]; have h1 := puts_len l []; simp at h1; have := hll.out; omega
        rw [hS] at m2
        obtain ⟨nS, hnS⟩ : ∃ nS, S.length = nS := ⟨_, rfl⟩
        rw [hnS] at hS60
        have hnSh := Lib.hid hnS
        have hSh := Lib.hid hS
        clear hnS hS
        go_wp2_with fail
        refine (rnew_lo l A n c w2 hr2 (by omega)).mono ?_
        rintro e w3 ⟨hb, ⟨_, g', rfl, hg', hM, hLo⟩ | ⟨h1, _⟩⟩
        case inr => exact absurd hnd h1
        rw [hSh.out] at hM
        have s3 : Hid (NSt W w3 g v g' S (fun q => XA = some ⟨q, 0, none⟩ ∧ 0 < n)) := by
          have hm3 := m2.out.below hb
          refine ⟨hm3, hM, fun q hq => ?_⟩
          obtain ⟨rfl, hn0⟩ := hq
          have hl := hxo.out.lt q rfl
          have h2 := hs12.out
          have h3 := hb.size
          refine ⟨hl.1, ⟨by omega, ?_, fun e => ?_⟩, ?_, fun A0 n0 c0 hB ad e hn1 => ?_⟩
          · have := hglo.out; omega
          · have := hvlo.out q e; omega
          · omega
          · have := hLo A0 n0 c0 hB ad e hn1; omega
        have hr3 := reads_on hr2 hb
        have hx3 := reads_on hx2 hb
        have wx3 := wrP_on wx2 hb
        clear hb hM hLo hg' m2 hr2 hx2 wx2 hxo
        go_wp2_with fail
        refine (sameP l XA A n n XC c w3 hx3 hr3 (by omega)).mono ?_
        rintro e w4 ⟨rfl, hb⟩
        have s4 := nst_on s3 hb
        have wx4 := wrP_on wx3 hb
        clear hb s3 hr3 hx3 wx3
        obtain ⟨c0, c1⟩ := box2 hBs s4.out.m.bel
        by_cases hlh : lo ≤ hi
        · go_wp2_with fail
          refine (rngM lo hi w4 (Lib.hid s4.out.m) (by have := hnSh.out; omega) (by omega)).mono ?_
          rintro e w5 ⟨RA, RC, rfl, hown, hb⟩
          obtain ⟨R, hR⟩ : ∃ R, Hid (inR lo hi S = R) := ⟨_, rfl⟩
          obtain ⟨nR, hnR⟩ : ∃ nR, (inR lo hi S).length = nR := ⟨_, rfl⟩
          have hnRh := Lib.hid hnR
          have hR60 : nR ≤ 60 := by rw [← hnR]; have h1 : (inR lo hi S).length ≤ S.length := List.length_filter_le _ _; have := hnSh.out; omega
          rw [hnR, hR.out] at hown
          try rw [hnR]
          have s5 := Lib.hid (s4.out.add hb hown)
          have ha5 : Hid (Reads w5 w5.heap.size 2 RA nR (prs R)) := Reads.of_own hown
          have wa5 := Lib.hid ((WrP.of_own hown).wide (Q' := fun q => (XA = some ⟨q, 0, none⟩ ∧ 0 < n) ∨ (RA = some ⟨q, 0, none⟩ ∧ 0 < nR)) (fun q hq => .inr hq))
          have wx5 := Lib.hid ((wrP_on wx4 hb).out.wide (Q' := fun q => (XA = some ⟨q, 0, none⟩ ∧ 0 < n) ∨ (RA = some ⟨q, 0, none⟩ ∧ 0 < nR)) (fun q hq => .inl hq))
          clear hown hnR s4 wx4 hb c0 c1
          obtain ⟨c0, c1⟩ := box2 hBs s5.out.m.bel
          go_wp2_with fail
          refine (rrange_any S g' lo hi w5 (Lib.hid s5.out.r) (by have := hnSh.out; omega) (by omega)).mono ?_
          rintro e w6 ⟨BA, BC, rfl, hown, hb⟩
          have hb6 : Hid (Reads w6 w6.heap.size 2 BA nR (prs R)) := by have h1 := Reads.of_own hown; rw [hnRh.out, hR.out] at h1; exact h1
          try rw [hnRh.out]
          have s6 := nst_on s5 hb
          have ha6 := reads_on ha5 hb
          have wa6 := wrP_on wa5 hb
          have wx6 := wrP_on wx5 hb
          clear hown hb s5 ha5 wa5 wx5 c0 c1
          go_wp2_with fail
          refine (pairsM w6 (Lib.hid s6.out.m)).mono ?_
          rintro e w7 ⟨CA, CC, rfl, hown, hb⟩
          rw [hnSh.out] at hown
          try rw [hnSh.out]
          have s7 := Lib.hid (s6.out.add hb hown)
          have hc7 : Hid (Reads w7 w7.heap.size 2 CA nS (prs S)) := Reads.of_own hown
          have ha7 := reads_on ha6 hb
          have hb7 := reads_on hb6 hb
          have wc7 := Lib.hid (WrP.of_own hown)
          have wa7 := wrP_on wa6 hb
          have wx7 := wrP_on wx6 hb
          obtain ⟨Q, hQ⟩ : ∃ Q : Nat → Prop, (fun q => ((XA = some ⟨q, 0, none⟩ ∧ 0 < n) ∨ (RA = some ⟨q, 0, none⟩ ∧ 0 < nR)) ∨ (CA = some ⟨q, 0, none⟩ ∧ 0 < nS)) = Q := ⟨_, rfl⟩
          have hst7 : Hid (NSt W w7 g v g' S Q) := by rw [← hQ]; exact s7.out
          have hA7 : Hid (WrP w7 RA nR Q) := by rw [← hQ]; exact wa7.out.wide fun q hq => .inl hq
          have hC7 : Hid (WrP w7 CA nS Q) := by rw [← hQ]; exact wc7.out.wide fun q hq => .inr hq
          have hX7 : Hid (WrP w7 XA n Q) := by rw [← hQ]; exact wx7.out.wide fun q hq => .inl hq
          clear hown hb s6 s7 ha6 hb6 wa6 wx6 wc7 wa7 wx7 hQ
          go_wp2_with fail
          refine (sameP R RA BA nR nR RC BC w7 ha7 hb7 (by omega)).mono ?_
          rintro e w8 ⟨rfl, hb⟩
          have hst8 := nst_on hst7 hb
          have hA8 := wrP_on hA7 hb
          have hC8 := wrP_on hC7 hb
          have hX8 := wrP_on hX7 hb
          have hc8 := reads_on hc7 hb
          clear hb hst7 hA7 hC7 hX7 hc7 ha7 hb7
          go_wp2_with fail
          refine (rpairs_any S g' w8 (Lib.hid hst8.out.r) (by have := hnSh.out; omega)).mono ?_
          rintro e w9 ⟨DA, DC, rfl, hown, hb⟩
          have hd9 : Hid (Reads w9 w9.heap.size 2 DA nS (prs S)) := by have h1 := Reads.of_own hown; rw [hnSh.out] at h1; exact h1
          try rw [hnSh.out]
          have hst9 := nst_on hst8 hb
          have hA9 := wrP_on hA8 hb
          have hC9 := wrP_on hC8 hb
          have hX9 := wrP_on hX8 hb
          have hc9 := reads_on hc8 hb
          clear hown hb hst8 hA8 hC8 hX8 hc8
          go_wp2_with fail
          refine (sameP S CA DA nS nS CC DC w9 hc9 hd9 (by omega)).mono ?_
          rintro e wa ⟨rfl, hb⟩
          have hst := nst_on hst9 hb
          have ha := wrP_on hA9 hb
          have hc := wrP_on hC9 hb
          have hx := wrP_on hX9 hb
          clear hb hst9 hA9 hC9 hX9 hc9 hd9
          go_wp2_with fail
          go_loopg [13] nR (fun gk iv wr => ∃ z : Nat, z + gk = nR ∧ iv = .int .i64 z ∧ Hid (NSt W wr g v g' S Q) ∧ Hid (WrP wr RA nR Q) ∧ Hid (WrP wr CA nS Q) ∧ Hid (WrP wr XA n Q))
          case atStart => exact ⟨0, by omega, rfl, hst.out, ha.out, hc.out, hx.out⟩
          case round =>
            clear hst ha hc hx
            obtain ⟨z, hz, rfl, hst, ha, hc, hx⟩ := hrel
            cases gk with
            | zero =>
              obtain rfl : nR = z := by omega
              go_wp2_with fail
              go_loopg [14] nS (fun gk iv wr => ∃ z : Nat, z + gk = nS ∧ iv = .int .i64 z ∧ Hid (NSt W wr g v g' S Q) ∧ Hid (WrP wr RA nR Q) ∧ Hid (WrP wr CA nS Q) ∧ Hid (WrP wr XA n Q))
              case atStart => exact ⟨0, by omega, rfl, hst.out, ha.out, hc.out, hx.out⟩
              case round =>
                clear hst ha hc hx
                obtain ⟨z, hz, rfl, hst, ha, hc, hx⟩ := hrel
                cases gk with
                | zero =>
                  obtain rfl : nS = z := by omega
                  go_wp2_with fail
                  go_loopg [15] n (fun gk iv wr => ∃ z : Nat, z + gk = n ∧ iv = .int .i64 z ∧ Hid (NSt W wr g v g' S Q) ∧ Hid (WrP wr RA nR Q) ∧ Hid (WrP wr CA nS Q) ∧ Hid (WrP wr XA n Q))
                  case atStart => exact ⟨0, by omega, rfl, hst.out, ha.out, hc.out, hx.out⟩
                  case round =>
                    clear hst ha hc hx
                    obtain ⟨z, hz, rfl, hst, ha, hc, hx⟩ := hrel
                    cases gk with
                    | zero =>
                      obtain rfl : n = z := by omega
                      go_wp2_with fail
                      refine (pairsM wr (Lib.hid hst.out.m)).mono ?_
                      rintro e wp ⟨EA, EC, rfl, hown, hb⟩
                      have hst2 := nst_on hst hb
                      have he : Hid (Reads wp wp.heap.size 2 EA nS (prs S)) := by have h1 := Reads.of_own hown; rw [hnSh.out] at h1; exact h1
                      try rw [hnSh.out]
                      clear hown hb hst ha hc hx
                      go_wp2_with fail
                      refine (rpairs_any S g' wp (Lib.hid hst2.out.r) (by have := hnSh.out; omega)).mono ?_
                      rintro e wq ⟨FA, FC, rfl, hown, hb⟩
                      have hst3 := nst_on hst2 hb
                      have he2 := reads_on he hb
                      have hf : Hid (Reads wq wq.heap.size 2 FA nS (prs S)) := by have h1 := Reads.of_own hown; rw [hnSh.out] at h1; exact h1
                      try rw [hnSh.out]
                      clear hown hb hst2 he
                      go_wp2_with fail
                      refine (sameP S EA FA nS nS EC FC wq he2 hf (by omega)).mono ?_
                      rintro e ws ⟨rfl, hb⟩
                      have hbe := below_on (below_on hb0 hst3.out.m.bel) hb
                      clear hb
                      go_wp2_with fail
                      go_ret
                      exact ⟨rfl, hbe.out⟩
                    | succ g3 =>
                      obtain ⟨q, u0, u1, hA, hq, y0, y1, f0, f1⟩ := hx.out.at_ (show z < n by omega)
                      subst hA
                      have z0 : (0 : Int) ≤ (z : Int) := by omega
                      have z1 : (z : Int) < (n : Int) := by omega
                      have z2 : z ≤ 61 := by omega
                      have hst2 := Lib.hid ((hst.out.set_ hq (z * 2) (.int .u64 0)).set_ hq (z * 2 + 1) (.int .u64 0))
                      have ha2 := Lib.hid ((ha.out.set q (z * 2) (.int .u64 0)).set q (z * 2 + 1) (.int .u64 0))
                      have hc2 := Lib.hid ((hc.out.set q (z * 2) (.int .u64 0)).set q (z * 2 + 1) (.int .u64 0))
                      have hx2 := Lib.hid ((hx.out.set q (z * 2) (.int .u64 0)).set q (z * 2 + 1) (.int .u64 0))
                      go_wp2_with fail
                      go_roundg g3
                      case measure => omega
                      case rel => exact ⟨z + 1, by omega, by go_num, hst2, ha2, hc2, hx2⟩
                | succ g3 =>
                  obtain ⟨q, u0, u1, hA, hq, y0, y1, f0, f1⟩ := hc.out.at_ (show z < nS by omega)
                  subst hA
                  have z0 : (0 : Int) ≤ (z : Int) := by omega
                  have z1 : (z : Int) < (nS : Int) := by omega
                  have z2 : z ≤ 61 := by omega
                  have hst2 := Lib.hid ((hst.out.set_ hq (z * 2) (.int .u64 0)).set_ hq (z * 2 + 1) (.int .u64 0))
                  have ha2 := Lib.hid ((ha.out.set q (z * 2) (.int .u64 0)).set q (z * 2 + 1) (.int .u64 0))
                  have hc2 := Lib.hid ((hc.out.set q (z * 2) (.int .u64 0)).set q (z * 2 + 1) (.int .u64 0))
                  have hx2 := Lib.hid ((hx.out.set q (z * 2) (.int .u64 0)).set q (z * 2 + 1) (.int .u64 0))
                  go_wp2_with fail
                  go_roundg g3
                  case measure => omega
                  case rel => exact ⟨z + 1, by omega, by go_num, hst2, ha2, hc2, hx2⟩
            | succ g3 =>
              obtain ⟨q, u0, u1, hA, hq, y0, y1, f0, f1⟩ := ha.out.at_ (show z < nR by omega)
              subst hA
              have z0 : (0 : Int) ≤ (z : Int) := by omega
              have z1 : (z : Int) < (nR : Int) := by omega
              have z2 : z ≤ 61 := by omega
              have hst2 := Lib.hid ((hst.out.set_ hq (z * 2) (.int .u64 0)).set_ hq (z * 2 + 1) (.int .u64 0))
              have ha2 := Lib.hid ((ha.out.set q (z * 2) (.int .u64 0)).set q (z * 2 + 1) (.int .u64 0))
              have hc2 := Lib.hid ((hc.out.set q (z * 2) (.int .u64 0)).set q (z * 2 + 1) (.int .u64 0))
              have hx2 := Lib.hid ((hx.out.set q (z * 2) (.int .u64 0)).set q (z * 2 + 1) (.int .u64 0))
              go_wp2_with fail
              go_roundg g3
              case measure => omega
              case rel => exact ⟨z + 1, by omega, by go_num, hst2, ha2, hc2, hx2⟩
        · go_wp2_with fail
          refine (rng_no g lo hi w4 (by omega)).mono ?_
          rintro e w5 ⟨rfl, hb⟩
          have s5 := nst_on s4 hb
          have wx5 := wrP_on wx4 hb
          clear s4 wx4 hb c0 c1
          obtain ⟨c0, c1⟩ := box2 hBs s5.out.m.bel
          go_wp2_with fail
          refine (rrange_no g' lo hi w5 (by omega)).mono ?_
          rintro e w6 ⟨rfl, hb⟩
          have s6 := nst_on s5 hb
          have wx6 := wrP_on wx5 hb
          clear hb s5 wx5 c0 c1
          go_wp2_with fail
          refine (pairsM w6 (Lib.hid s6.out.m)).mono ?_
          rintro e w7 ⟨CA, CC, rfl, hown, hb⟩
          rw [hnSh.out] at hown
          try rw [hnSh.out]
          have s7 := Lib.hid (s6.out.add hb hown)
          have hc7 : Hid (Reads w7 w7.heap.size 2 CA nS (prs S)) := Reads.of_own hown
          have wc7 := Lib.hid (WrP.of_own hown)
          have wx7 := wrP_on wx6 hb
          obtain ⟨Q, hQ⟩ : ∃ Q : Nat → Prop, (fun q => (XA = some ⟨q, 0, none⟩ ∧ 0 < n) ∨ (CA = some ⟨q, 0, none⟩ ∧ 0 < nS)) = Q := ⟨_, rfl⟩
          have hst7 : Hid (NSt W w7 g v g' S Q) := by rw [← hQ]; exact s7.out
          have hC7 : Hid (WrP w7 CA nS Q) := by rw [← hQ]; exact wc7.out.wide fun q hq => .inr hq
          have hX7 : Hid (WrP w7 XA n Q) := by rw [← hQ]; exact wx7.out.wide fun q hq => .inl hq
          clear hown hb s6 s7 wx6 wc7 wx7 hQ
          go_wp2_with fail
          refine (sameP [] none none 0 0 0 0 w7 (Lib.hid Reads.none_) (Lib.hid Reads.none_) (by omega)).mono ?_
          rintro e w8 ⟨rfl, hb⟩
          have hst8 := nst_on hst7 hb
          have hC8 := wrP_on hC7 hb
          have hX8 := wrP_on hX7 hb
          have hc8 := reads_on hc7 hb
          clear hb hst7 hC7 hX7 hc7
          go_wp2_with fail
          refine (rpairs_any S g' w8 (Lib.hid hst8.out.r) (by have := hnSh.out; omega)).mono ?_
          rintro e w9 ⟨DA, DC, rfl, hown, hb⟩
          have hd9 : Hid (Reads w9 w9.heap.size 2 DA nS (prs S)) := by have h1 := Reads.of_own hown; rw [hnSh.out] at h1; exact h1
          try rw [hnSh.out]
          have hst9 := nst_on hst8 hb
          have hC9 := wrP_on hC8 hb
          have hX9 := wrP_on hX8 hb
          have hc9 := reads_on hc8 hb
          clear hown hb hst8 hC8 hX8 hc8
          go_wp2_with fail
          refine (sameP S CA DA nS nS CC DC w9 hc9 hd9 (by omega)).mono ?_
          rintro e wa ⟨rfl, hb⟩
          have hst := nst_on hst9 hb
          have hc := wrP_on hC9 hb
          have hx := wrP_on hX9 hb
          clear hb hst9 hC9 hX9 hc9 hd9
          go_wp2_with fail
          go_loopg [13] 0 (fun gk iv wr => gk = 0 ∧ iv = .int .i64 0 ∧ Hid (NSt W wr g v g' S Q) ∧ Hid (WrP wr CA nS Q) ∧ Hid (WrP wr XA n Q))
          case atStart => exact ⟨rfl, rfl, hst.out, hc.out, hx.out⟩
          case round =>
            clear hst hc hx
            obtain ⟨rfl, rfl, hst, hc, hx⟩ := hrel
            go_wp2_with fail
            go_loopg [14] nS (fun gk iv wr => ∃ z : Nat, z + gk = nS ∧ iv = .int .i64 z ∧ Hid (NSt W wr g v g' S Q) ∧ Hid (WrP wr CA nS Q) ∧ Hid (WrP wr XA n Q))
            case atStart => exact ⟨0, by omega, rfl, hst.out, hc.out, hx.out⟩
            case round =>
              clear hst hc hx
              obtain ⟨z, hz, rfl, hst, hc, hx⟩ := hrel
              cases gk with
              | zero =>
                obtain rfl : nS = z := by omega
                go_wp2_with fail
                go_loopg [15] n (fun gk iv wr => ∃ z : Nat, z + gk = n ∧ iv = .int .i64 z ∧ Hid (NSt W wr g v g' S Q) ∧ Hid (WrP wr CA nS Q) ∧ Hid (WrP wr XA n Q))
                case atStart => exact ⟨0, by omega, rfl, hst.out, hc.out, hx.out⟩
                case round =>
                  clear hst hc hx
                  obtain ⟨z, hz, rfl, hst, hc, hx⟩ := hrel
                  cases gk with
                  | zero =>
                    obtain rfl : n = z := by omega
                    go_wp2_with fail
                    refine (pairsM wr (Lib.hid hst.out.m)).mono ?_
                    rintro e wp ⟨EA, EC, rfl, hown, hb⟩
                    have hst2 := nst_on hst hb
                    have he : Hid (Reads wp wp.heap.size 2 EA nS (prs S)) := by have h1 := Reads.of_own hown; rw [hnSh.out] at h1; exact h1
                    try rw [hnSh.out]
                    clear hown hb hst hc hx
                    go_wp2_with fail
                    refine (rpairs_any S g' wp (Lib.hid hst2.out.r) (by have := hnSh.out; omega)).mono ?_
                    rintro e wq ⟨FA, FC, rfl, hown, hb⟩
                    have hst3 := nst_on hst2 hb
                    have he2 := reads_on he hb
                    have hf : Hid (Reads wq wq.heap.size 2 FA nS (prs S)) := by have h1 := Reads.of_own hown; rw [hnSh.out] at h1; exact h1
                    try rw [hnSh.out]
                    clear hown hb hst2 he
                    go_wp2_with fail
                    refine (sameP S EA FA nS nS EC FC wq he2 hf (by omega)).mono ?_
                    rintro e ws ⟨rfl, hb⟩
                    have hbe := below_on (below_on hb0 hst3.out.m.bel) hb
                    clear hb
                    go_wp2_with fail
                    go_ret
                    exact ⟨rfl, hbe.out⟩
                  | succ g3 =>
                    obtain ⟨q, u0, u1, hA, hq, y0, y1, f0, f1⟩ := hx.out.at_ (show z < n by omega)
                    subst hA
                    have z0 : (0 : Int) ≤ (z : Int) := by omega
                    have z1 : (z : Int) < (n : Int) := by omega
                    have z2 : z ≤ 61 := by omega
                    have hst2 := Lib.hid ((hst.out.set_ hq (z * 2) (.int .u64 0)).set_ hq (z * 2 + 1) (.int .u64 0))
                    have hc2 := Lib.hid ((hc.out.set q (z * 2) (.int .u64 0)).set q (z * 2 + 1) (.int .u64 0))
                    have hx2 := Lib.hid ((hx.out.set q (z * 2) (.int .u64 0)).set q (z * 2 + 1) (.int .u64 0))
                    go_wp2_with fail
                    go_roundg g3
                    case measure => omega
                    case rel => exact ⟨z + 1, by omega, by go_num, hst2, hc2, hx2⟩
              | succ g3 =>
                obtain ⟨q, u0, u1, hA, hq, y0, y1, f0, f1⟩ := hc.out.at_ (show z < nS by omega)
                subst hA
                have z0 : (0 : Int) ≤ (z : Int) := by omega
                have z1 : (z : Int) < (nS : Int) := by omega
                have z2 : z ≤ 61 := by omega
                have hst2 := Lib.hid ((hst.out.set_ hq (z * 2) (.int .u64 0)).set_ hq (z * 2 + 1) (.int .u64 0))
                have hc2 := Lib.hid ((hc.out.set q (z * 2) (.int .u64 0)).set q (z * 2 + 1) (.int .u64 0))
                have hx2 := Lib.hid ((hx.out.set q (z * 2) (.int .u64 0)).set q (z * 2 + 1) (.int .u64 0))
                go_wp2_with fail
                go_roundg g3
                case measure => omega
                case rel => exact ⟨z + 1, by omega, by go_num, hst2, hc2, hx2⟩
    · as_aux_lemma =>
        have hb2 := below_on hb1 hb
        have hr2 := reads_on hr1 hb
        have hx2 := reads_on hx1 hb
        have wx2 : Hid (WrP w2 XA n (fun q => W.heap.size ≤ q)) := (wrP_on (Lib.hid (WrP.of_own hxo.out)) hb).out.wide fun q hq => by obtain ⟨h, _⟩ := hq; subst h; exact (hxo.out.lt q rfl).1
        have hbW := hb2
        clear hb hr1 hx1 hb1 hb2 hxo
        go_wp2_with fail
        refine (rnew_lo l A n c w2 hr2 (by omega)).mono ?_
        rintro e w3 ⟨hb, ⟨h1, _⟩ | ⟨_, rfl⟩⟩
        · exact absurd h1 hnd
        have b3 := below_on hbW hb
        have hr3 := reads_on hr2 hb
        have hx3 := reads_on hx2 hb
        have wx3 := wrP_on wx2 hb
        clear hb hr2 hx2 wx2 hbW
        go_wp2_with fail
        refine (sameP l XA A n n XC c w3 hx3 hr3 (by omega)).mono ?_
        rintro e w4 ⟨rfl, hb⟩
        have b4 := below_on b3 hb
        have wx4 := wrP_on wx3 hb
        clear hb b3 hr3 hx3 wx3
        obtain ⟨c0, c1⟩ := box2 hBs b4.out
        go_wp2_with fail
        refine (range_nil lo hi w4).mono ?_
        rintro e w5 ⟨rfl, hb⟩
        have b5 := below_on b4 hb
        have wx5 := wrP_on wx4 hb
        clear hb b4 wx4 c0 c1
        obtain ⟨c0, c1⟩ := box2 hBs b5.out
        go_wp2_with fail
        refine (rrange_nil lo hi w5).mono ?_
        rintro e w6 ⟨rfl, hb⟩
        have b6 := below_on b5 hb
        have wx6 := wrP_on wx5 hb
        clear hb b5 wx5 c0 c1
        go_wp2_with fail
        refine (pairs_nil w6).mono ?_
        rintro e w7 ⟨rfl, hb⟩
        have b7 := below_on b6 hb
        have wx7 := wrP_on wx6 hb
        clear hb b6 wx6
        go_wp2_with fail
        refine (sameP [] none none 0 0 0 0 w7 (Lib.hid Reads.none_) (Lib.hid Reads.none_) (by omega)).mono ?_
        rintro e w8 ⟨rfl, hb⟩
        have b8 := below_on b7 hb
        have wx8 := wrP_on wx7 hb
        clear hb b7 wx7
        go_wp2_with fail
        refine (rpairs_nil w8).mono ?_
        rintro e w9 ⟨rfl, hb⟩
        have b9 := below_on b8 hb
        have wx9 := wrP_on wx8 hb
        clear hb b8 wx8
        go_wp2_with fail
        refine (sameP [] none none 0 0 0 0 w9 (Lib.hid Reads.none_) (Lib.hid Reads.none_) (by omega)).mono ?_
        rintro e wa ⟨rfl, hb⟩
        have hbx := below_on b9 hb
        have hx := wrP_on wx9 hb
        clear hb b9 wx9
        go_wp2_with fail
        go_loopg [13] 0 (fun gk iv wr => gk = 0 ∧ iv = .int .i64 0 ∧ Hid (Below W.heap.size W wr) ∧ Hid (WrP wr XA n (fun q => W.heap.size ≤ q)))
        case atStart => exact ⟨rfl, rfl, hbx.out, hx.out⟩
        case round =>
          clear hbx hx
          obtain ⟨rfl, rfl, hbx, hx⟩ := hrel
          go_wp2_with fail
          go_loopg [14] 0 (fun gk iv wr => gk = 0 ∧ iv = .int .i64 0 ∧ Hid (Below W.heap.size W wr) ∧ Hid (WrP wr XA n (fun q => W.heap.size ≤ q)))
          case atStart => exact ⟨rfl, rfl, hbx.out, hx.out⟩
          case round =>
            clear hbx hx
            obtain ⟨rfl, rfl, hbx, hx⟩ := hrel
            go_wp2_with fail
            go_loopg [15] n (fun gk iv wr => ∃ z : Nat, z + gk = n ∧ iv = .int .i64 z ∧ Hid (Below W.heap.size W wr) ∧ Hid (WrP wr XA n (fun q => W.heap.size ≤ q)))
            case atStart => exact ⟨0, by omega, rfl, hbx.out, hx.out⟩
            case round =>
              clear hbx hx
              obtain ⟨z, hz, rfl, hbx, hx⟩ := hrel
              cases gk with
              | zero =>
                obtain rfl : n = z := by omega
                go_wp2_with fail
                refine (pairs_nil wr).mono ?_
                rintro e wp ⟨rfl, hb⟩
                have bb := below_on hbx hb
                clear hb
                go_wp2_with fail
                refine (rpairs_nil wp).mono ?_
                rintro e wq ⟨rfl, hb⟩
                have bc := below_on bb hb
                clear hb
                go_wp2_with fail
                refine (sameP [] none none 0 0 0 0 wq (Lib.hid Reads.none_) (Lib.hid Reads.none_) (by omega)).mono ?_
                rintro e ws ⟨rfl, hb⟩
                have bd := below_on bc hb
                clear hb
                go_wp2_with fail
                go_ret
                exact ⟨rfl, (below_on hb0 bd.out).out⟩
              | succ g3 =>
                obtain ⟨q, u0, u1, hA, hq, y0, y1, f0, f1⟩ := hx.out.at_ (show z < n by omega)
                subst hA
                have z0 : (0 : Int) ≤ (z : Int) := by omega
                have z1 : (z : Int) < (n : Int) := by omega
                have z2 : z ≤ 61 := by omega
                have hx2 := Lib.hid ((hx.out.set q (z * 2) (.int .u64 0)).set q (z * 2 + 1) (.int .u64 0))
                have hb2 := Lib.hid ((hbx.out.setCell (p := ⟨q, z * 2, none⟩) hq (.int .u64 0)).setCell (p := ⟨q, z * 2 + 1, none⟩) hq (.int .u64 0))
                go_wp2_with fail
                go_roundg g3
                case measure => omega
                case rel => exact ⟨z + 1, by omega, by go_num, hb2, hx2⟩
theorem new_law (A : Option Addr) (n c : Nat) (l : List Pr) (lo hi : Int) (w : World) (hI : IsPairs w A n c l) (wlo : (Lit.int .u64 lo).wf = true) (whi : (Lit.int .u64 hi).wf = true) :
    Calls Try.prog 5 #[.slice A n c, .agg #[.int .u64 lo, .int .u64 hi]] w fun e w' => e = .returned (.bool true) ∧ Below w.heap.size w w' :=
  new_core A n c l lo hi w hI.reads
end Go.Proofs.Ytfghkmhabpagkaa
