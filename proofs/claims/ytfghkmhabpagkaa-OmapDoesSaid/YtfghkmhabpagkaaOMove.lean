/- The program's map, walked: Move. -/
import Derived.Test.YtfghkmhabpagkaaOMeth
import Derived.OpenShut
namespace Go.Proofs.Ytfghkmhabpagkaa
open Go Go.RowKit
set_option linter.unusedVariables false

theorem puts_step' {base ts : List Pr} {k : Nat} {t : Pr} (h : ts[k]? = some t) : puts base (ts.take (k + 1)) = setP t (puts base (ts.take k)) := by
  rw [List.take_add_one, h]
  exact puts_snoc base (ts.take k) t
theorem reads_zero {w : World} {B : Nat} (A : Option Addr) : Reads w B 2 A 0 (prs []) := ⟨rfl, fun h => absurd h (by omega)⟩
theorem shP_wrap {lo hi by_ : Int} {l : List Pr} {p : Pr} (hw : ∀ p ∈ l, (Lit.int .u64 p.key).wf = true) (hhi : (Lit.int .u64 hi).wf = true) (hby : (Lit.int .u64 by_).wf = true) (h2 : ¬ 18446744073709551615 - hi < by_) (hp : p ∈ inR lo hi l) :
    IntKind.u64.wrap (p.key + by_) = p.key + by_ := by
  have h1 := bounds_u64 (hw p (List.mem_filter.1 hp).1)
  have h3 := bounds_u64 hby
  have h4 : inB lo hi p.key = true := (List.mem_filter.1 hp).2
  have h5 : lo ≤ p.key ∧ p.key ≤ hi := by simpa [inB] using h4
  exact IntWalk.u64_in _ (by omega)

/-- While the keys of a range are set anew. -/
def MvInv (base g B I : Nat) (v out : Value) (ms cur : List Pr) (w wr : World) : Prop :=
  ∃ v', IsO wr base g v' cur ∧ But w wr g v ∧ Since w v v' ∧ wr.ownsRow B 38 2 out I (prs ms) ∧ (∀ q, v'.ownBlock = some q → out.ownBlock ≠ some q) ∧ g < B ∧ w.heap.size ≤ wr.heap.size
theorem MvInv.step {base g B I : Nat} {v out v' : Value} {ms cur m : List Pr} {w wr wr1 w3 : World} (ho : IsO wr base g v' cur) (hb : But w wr g v) (hs : Since w v v') (hw : wr.ownsRow B 38 2 out I (prs ms))
    (hap : ∀ q, v'.ownBlock = some q → out.ownBlock ≠ some q) (hg : g < B) (hsz : w.heap.size ≤ wr.heap.size) (h1 : Below wr.heap.size wr wr1) (he : OEnd base g v' m wr1 w3) : MvInv base g B I v out ms m w w3 := by
  obtain ⟨v2, ho2, hb2, hs2⟩ := he
  have hb12 : But w wr1 g v := hb.trans (v1 := v') (.of_below h1) hs
  refine ⟨v2, ho2, hb12.trans hb2 hs, Since.trans (w1 := wr1) (by have := h1.size; omega) hs hs2, ?_, ?_, hg, by have := h1.size; have := hb2.size; omega⟩
  · have hw1 := own_below hw h1
    refine ⟨hw1.1, ?_⟩
    rcases hw1.2 with ⟨e, h0⟩ | ⟨g', cap, cur', hv, hbb, hgg, hr⟩
    · exact .inl ⟨e, h0⟩
    · exact .inr ⟨g', cap, cur', hv, hbb, (hb2.block g' (Blk.lt hgg) (by omega) (fun e => hap g' e (by rw [hv]; rfl))).trans hgg, hr⟩
  · intro q hq e
    rcases hs2 q hq with h | h
    · exact hap q h e
    · have := (hw.lt q e).2
      have := h1.size
      omega

set_option maxRecDepth 100000 in
set_option maxHeartbeats 8000000 in
theorem moveO_ok (l : List Pr) (base g : Nat) (v : Value) (lo hi by_ : Int) (w : World) (ho : Hid (IsO w base g v l)) (hl : l.length ≤ 400000) (h : lo ≤ hi) (h0 : by_ ≠ 0) (h2 : ¬ 18446744073709551615 - hi < by_)
    (hw : ∀ p ∈ l, (Lit.int .u64 p.key).wf = true) (whi : (Lit.int .u64 hi).wf = true) (wby : (Lit.int .u64 by_).wf = true) :
    Calls Try.prog 14 #[.pointer (some ⟨g, 0, none⟩), .agg #[.int .u64 lo, .int .u64 hi], .int .u64 by_] w fun e w' => e = .returned (.tuple #[.int .i64 (inR lo hi l).length, .int .i64 0]) ∧ OEnd base g v (moved lo hi by_ l) w w' := by
  have hb0 : Below w.heap.size w (w.alloc (.cells #[.int .u64 lo, .int .u64 hi] 25)) := (Below.refl _ _).alloc (Nat.le_refl _) _
  have hc := ends_ok l g lo hi (w.alloc (.cells #[.int .u64 lo, .int .u64 hi] 25)) (Lib.hid (ho.out.below hb0).q) (Lib.hid ho.out.srt) h
  have hvlt : Hid (∀ q, v.ownBlock = some q → q < w.heap.size) := Lib.hid (fun q hq => (ho.out.own.lt q hq).2)
  have hB0 : Blk (w.alloc (.cells #[.int .u64 lo, .int .u64 hi] 25)) w.heap.size 25 #[.int .u64 lo, .int .u64 hi] := Blk.new _ _ _
  have hd2 : (by_ == 0) = false := by simpa using h0
  have hhi := bounds_u64 whi
  have hby := bounds_u64 wby
  have hsh := Lib.hid (fun p (hp : p ∈ inR lo hi l) => shP_wrap hw whi wby h2 hp)
  have hso := Lib.hid (srt_out (lo := lo) (hi := hi) ho.out.srt)
  obtain ⟨M, hM⟩ : ∃ M : Int, IntKind.u64.wrap (18446744073709551615 - hi) = M := ⟨_, rfl⟩
  have hd3 : decide (M < by_) = false := by
    have : M = 18446744073709551615 - hi := by rw [← hM, IntWalk.u64_in _ (by omega)]
    simp; omega
  clear h0 h2 hhi hby hw
  obtain ⟨ms, hms⟩ : ∃ ms, inR lo hi l = ms := ⟨_, rfl⟩
  obtain ⟨os, hos⟩ : ∃ os, outR lo hi l = os := ⟨_, rfl⟩
  have hmv : Hid (moved lo hi by_ l = puts os (ms.map (shP by_))) := Lib.hid (by rw [← hms, ← hos]; rfl)
  rw [hms] at hsh ⊢
  rw [hos] at hso
  go_enter Try.func14, Try.ntmps14
  go_wp2_with fail
  refine hc.mono ?_
  rintro e w1 ⟨a, T, rfl, hE, hb⟩
  have hb1 : Below w.heap.size w w1 := hb0.trans (hb.mono (by simp))
  have hB1 := hB0.below hb (by simp)
  have hs1 := hB1.cell 1
  simp at hs1
  have ho1 := ho.out.below hb1
  obtain ⟨A, c, rfl, hnc, hcm⟩ := own_form ho1.own
  have hg : w1.cell? ⟨g, 0, none⟩ = some (.slice A l.length c) := by simpa using ho1.blk.cell 0
  have hin := inR_len_of hE
  have hosl : os.length ≤ l.length := by rw [← hos]; exact List.length_filter_le _ _
  have hms' := hE.2.2.1
  rw [hms] at hin hms'
  have hcl : Hid (∀ A' n' c', n' = ms.length → Reads w1 w1.heap.size 2 A' n' (prs ms) → Calls Try.prog 34 #[.slice A' n' c'] w1 (CloneEnd ms ms.length w1)) :=
    Lib.hid (fun A' n' c' hn hr => hn ▸ clone_any ms A' n' c' w1 (Lib.hid hr) (by have := hE.2.1; omega))
  have hread : Hid (∀ b, A = some ⟨b, 0, none⟩ → Reads w1 w1.heap.size 2 (some ⟨b, a * 2, none⟩) (T - a) (prs ms)) := Lib.hid (fun b hA => by
    refine ⟨by rw [prs_len, hin], fun hpos => ?_⟩
    obtain ⟨g', cur, hA', hbg, hBB, _, _, hsz, htk⟩ := own_open ho1.own (by have := hE.2.1; omega)
    rw [hA] at hA'
    have hA' := Option.some.inj hA'
    injection hA' with e1 _ _
    subst e1
    refine ⟨_, rfl, hBB.lt, fun j u hu => ?_⟩
    refine cells_from hBB htk rfl a j u ?_
    rw [← hms', ← prs_take, List.getElem?_take] at hu
    split at hu
    · exact hu
    · cases hu)
  have hdel : Hid (∀ w2, Below w1.heap.size w1 w2 → Calls Try.prog 36 #[.slice A l.length c, .int .i64 a, .int .i64 T] w2 (RowEnd base os (.slice A l.length c) w2)) := Lib.hid (fun w2 hb2 => by
    have := sldel_any l A l.length c base a T w2 (own_below ho1.own hb2) hE.1 hE.2.1
    rw [hE.2.2.2, hos] at this
    exact this)
  have haT := hE.1
  have hTn := hE.2.1
  have hT9 : T ≤ 900000 := by have := ho1.len; omega
  have hc63 : c ≤ 9223372036854775807 := by unfold maxLen at hcm; omega
  have hH := Lib.hid (And.intro ho1 hb1)
  have hnil : A = none → l.length = 0 := fun e => by
    rcases Nat.eq_zero_or_pos l.length with h | h
    · exact h
    · obtain ⟨_, _, e2, _⟩ := own_open ho1.own h
      rw [e] at e2
      cases e2
  have hsome : ∀ b, A = some b → b = ⟨b.block, 0, none⟩ := fun b e => by
    rcases ho1.own.2 with ⟨e2, _⟩ | ⟨g', cap, cur, e2, _⟩
    · injection e2 with e3
      rw [e] at e3
      cases e3
    · injection e2 with e3
      rw [e] at e3
      rw [Option.some.inj e3]
  obtain ⟨n, hn⟩ : ∃ n, n = l.length := ⟨_, rfl⟩
  have hN := Lib.hid hn
  rw [← hn] at hg hdel hl hosl hnc hTn hnil
  clear hc ho ho1 hb hb1 hE hcm hn hb0 hms hos hms' hB0 hB1
  have hI : Hid (ms.length = T - a) := hin
  have e6 : (a : Int) ≤ (T : Int) := by omega
  have e7 : (T : Int) ≤ (n : Int) := by omega
  have e8 : T ≤ c := by omega
  have ez : (0 : Int) ≤ (a : Int) := by omega
  clear hin
  rcases A with _ | ⟨ab, ao, ap⟩
  · have hn0 := hnil rfl
    have hm0 : ms = [] := List.eq_nil_of_length_eq_zero (by rw [hI.out]; omega)
    have hz : Reads w1 w1.heap.size 2 none (T - a) (prs ms) := by
      rw [show T - a = 0 by omega, hm0]
      exact reads_zero none
    have hz := Lib.hid hz
    clear hsome hnil hn0 hread hm0
    go_wp2_with fail
    refine (hcl.out _ _ _ (by rw [hI.out]) hz.out).mono ?_
    clear hz
    rintro e w2 ⟨X, cx, rfl, hown2, hb2⟩
    obtain ⟨ho1, hb1⟩ := hH.out
    have ho2 := ho1.below hb2
    have hg2 : w2.cell? ⟨g, 0, none⟩ = some (.slice none n c) := by rw [hb2.cell ho1.blk.lt]; exact hg
    have hd := hdel.out w2 hb2
    have hIe : ms.length ≤ 400000 := by rw [hI.out]; omega
    obtain ⟨I, hI2⟩ : ∃ I, ms.length = I := ⟨_, rfl⟩
    have hIL := Lib.hid hI2
    rw [hI2] at hown2 hIe ⊢
    have hown2 := Lib.hid hown2
    have hb2 := Lib.hid hb2
    have ho2 := Lib.hid ho2
    clear hdel hcl ho1 hb1 hg hI2 hs1
    go_wp2_with fail
    refine hd.mono ?_
    rintro e w3 ⟨A', c', rfl, hown3, hg3, hat3⟩
    rw [hN.out] at hg3 hat3
    have hb1 := hH.out.2
    have hsz1 := hb1.size
    have hvl := hvlt.out
    have hR := rewrite_map (w := w) (w1 := w2) ho2.out (hb1.trans (hb2.out.mono hsz1)) (by have := hb2.out.size; omega) hown3 hg3 hat3 hso.out (by omega) hvl
    have hc3 : w3.cell? ⟨g, 0, none⟩ = some (.slice none l.length c) := by simpa using hR.2.cell 0
    have hf3 := hR.2.frozen 0
    have hgB : g < w1.heap.size := hH.out.1.blk.lt
    have hX : ∀ q, (Value.slice X I cx).ownBlock = some q → w1.heap.size ≤ q ∧ q < w2.heap.size := fun q hq => hown2.out.lt q hq
    have hM : Hid (MvInv base g w1.heap.size I (.slice none l.length c) (.slice X I cx) ms os w (w3.setCell ⟨g, 0, none⟩ (.slice A' os.length c'))) := by
      obtain ⟨v', h1, h2, h3⟩ := hR.1
      have hv' : v' = .slice A' os.length c' := by
        have e1 := h1.blk.cell 0
        have e2 := (hR.2.set_ 0 (.slice A' os.length c')).cell 0
        rw [e1] at e2
        simpa using e2
      subst hv'
      refine Lib.hid ⟨_, h1, h2, h3, ?_, ?_, hgB, h2.size⟩
      · rcases hq : (Value.slice X I cx).ownBlock with _ | q
        · exact (hown2.out.kept hg3 (.inl hq)).kept (but_set_ w3 g 0 _) (.inl hq)
        · have h5 := hX q hq
          refine (hown2.out.kept hg3 (.inr fun e => ?_)).kept (but_set_ w3 g 0 _) (.inr fun e => ?_)
          · rw [hq] at e
            have := hvl q e.symm
            omega
          · rw [hq] at e
            have := Option.some.inj e
            omega
      · intro q hq e
        have h5 := hX q e
        rcases hat3 q hq with h | h
        · have := hvl q h
          omega
        · omega
    clear hR hown3 hg3 hat3 hvl hX hd hg2 hgB hb1 hsz1 ho2
    go_wp2_with fail
    go_loopw [54] (fun i wr => ∃ k : Nat, k ≤ I ∧ i = .int .i64 k ∧ Hid (MvInv base g w1.heap.size I (.slice none l.length c) (.slice X I cx) ms (puts os ((ms.map (shP by_)).take k)) w wr)) (fun i _ => I - (intOf i).toNat)
    case atStart => exact ⟨0, by omega, rfl, hM.out⟩
    case round =>
      clear hM hc3 hf3
      obtain ⟨k, hk, rfl, hE⟩ := hrel
      have j0 : (0 : Int) ≤ (k : Int) := by omega
      by_cases hlt : k < I
      · obtain ⟨v', ho, hbut, hsn, hrow, hap, hgB, hsz⟩ := hE.out
        have hrr := Reads.of_own hrow
        obtain ⟨b, o, rfl, hbB⟩ := reads_head hrr (by omega) (by decide)
        obtain ⟨p, hx, p0, p1⟩ := prs_at hrr hlt
        have hst := puts_step' (base := os) (ts := ms.map (shP by_)) (k := k) (t := shP by_ p) (by rw [List.getElem?_map, hx]; rfl)
        have htk := hsh.out p (List.mem_of_getElem? hx)
        have hpl : (puts os ((ms.map (shP by_)).take k)).length ≤ 800000 := by
          have h1 := puts_len ((ms.map (shP by_)).take k) os
          have h2 : ((ms.map (shP by_)).take k).length ≤ k := List.length_take_le _ _
          omega
        obtain ⟨wr1, hwr1⟩ : ∃ wr1, wr1 = wr.alloc (.cells #[.int .u64 p.key, .int .u64 p.val] 38) := ⟨_, rfl⟩
        have hbw : Below wr.heap.size wr wr1 := by rw [hwr1]; exact (Below.refl _ _).alloc (Nat.le_refl _) _
        have hset := setO_any (puts os ((ms.map (shP by_)).take k)) base g v' (p.key + by_) p.val wr1 (ho.below hbw) hpl
        have hH2 := Lib.hid (And.intro ho (And.intro hbut (And.intro hsn (And.intro hrow (And.intro hap (And.intro hgB (And.intro hsz hbw)))))))
        have hst := Lib.hid hst
        obtain ⟨mk, mw⟩ := p
        dsimp only at p0 p1 htk hwr1 hset
        have j1 : (k : Int) < (I : Int) := by omega
        clear hx ho hbut hsn hrow hap hgB hsz hbw hE
        go_wp2_with fail
        rw [← hwr1]
        refine hset.mono ?_
        rintro e w5 ⟨⟨v5, rfl⟩, hO⟩
        have hE5 : Hid (MvInv base g w1.heap.size I (.slice none l.length c) (.slice (some ⟨b, o, none⟩) I cx) ms (puts os ((ms.map (shP by_)).take (k + 1))) w w5) := by
          obtain ⟨ho, hbut, hsn, hrow, hap, hgB, hsz, hbw⟩ := hH2.out
          unfold Hid
          rw [hst.out]
          exact MvInv.step ho hbut hsn hrow hap hgB hsz hbw hO
        clear hO hset hH2 hwr1
        go_wp2_with fail
        go_roundw
        case rel => exact ⟨k + 1, by omega, by go_num, hE5⟩
        case measure => simp [intOf]; omega
      · obtain rfl : k = I := by omega
        have hE4 : Hid (OEnd base g (.slice none l.length c) (moved lo hi by_ l) w wr) := by
          obtain ⟨v', ho, hbut, hsn, _⟩ := hE.out
          rw [List.take_of_length_le (by rw [List.length_map, hIL.out]; exact Nat.le_refl _)] at ho
          unfold Hid
          rw [hmv.out]
          exact ⟨v', ho, hbut, hsn⟩
        go_wp2_with fail
        go_ret2
        exact ⟨by rw [hIL.out]; rfl, hE4.out⟩
  · have hs := hsome _ rfl
    injection hs with _ hs1' hs2'
    subst hs1' hs2'
    clear hsome hnil
    by_cases hca : c = a
    · have hm0 : ms = [] := List.eq_nil_of_length_eq_zero (by rw [hI.out]; omega)
      have hz : ∀ n', n' = 0 → Reads w1 w1.heap.size 2 (some ⟨ab, 0, none⟩) n' (prs ms) := fun n' h => by
        rw [h, hm0]
        exact reads_zero _
      have hz := Lib.hid hz
      have hI0 := Lib.hid (show ms.length = 0 by rw [hm0]; rfl)
      clear hm0
      subst hca
      have h1 : c = T := by omega
      subst h1
      have e9 : (c : Int) ≤ (c : Int) := Int.le_refl _
      go_wp2_with fail
      refine (hcl.out _ _ _ (by rw [hI0.out]; try omega) (hz.out _ (by omega))).mono ?_
      clear hI0
      clear hz
      rintro e w2 ⟨X, cx, rfl, hown2, hb2⟩
      obtain ⟨ho1, hb1⟩ := hH.out
      have ho2 := ho1.below hb2
      have hg2 : w2.cell? ⟨g, 0, none⟩ = some (.slice (some ⟨ab, 0, none⟩) n c) := by rw [hb2.cell ho1.blk.lt]; exact hg
      have hd := hdel.out w2 hb2
      have hIe : ms.length ≤ 400000 := by rw [hI.out]; omega
      obtain ⟨I, hI2⟩ : ∃ I, ms.length = I := ⟨_, rfl⟩
      have hIL := Lib.hid hI2
      rw [hI2] at hown2 hIe ⊢
      have hown2 := Lib.hid hown2
      have hb2 := Lib.hid hb2
      have ho2 := Lib.hid ho2
      clear hdel hread hcl ho1 hb1 hg hI2 hs1
      go_wp2_with fail
      refine hd.mono ?_
      rintro e w3 ⟨A', c', rfl, hown3, hg3, hat3⟩
      rw [hN.out] at hg3 hat3
      have hb1 := hH.out.2
      have hsz1 := hb1.size
      have hvl := hvlt.out
      have hR := rewrite_map (w := w) (w1 := w2) ho2.out (hb1.trans (hb2.out.mono hsz1)) (by have := hb2.out.size; omega) hown3 hg3 hat3 hso.out (by omega) hvl
      have hc3 : w3.cell? ⟨g, 0, none⟩ = some (.slice (some ⟨ab, 0, none⟩) l.length c) := by simpa using hR.2.cell 0
      have hf3 := hR.2.frozen 0
      have hgB : g < w1.heap.size := hH.out.1.blk.lt
      have hX : ∀ q, (Value.slice X I cx).ownBlock = some q → w1.heap.size ≤ q ∧ q < w2.heap.size := fun q hq => hown2.out.lt q hq
      have hM : Hid (MvInv base g w1.heap.size I (.slice (some ⟨ab, 0, none⟩) l.length c) (.slice X I cx) ms os w (w3.setCell ⟨g, 0, none⟩ (.slice A' os.length c'))) := by
        obtain ⟨v', h1, h2, h3⟩ := hR.1
        have hv' : v' = .slice A' os.length c' := by
          have e1 := h1.blk.cell 0
          have e2 := (hR.2.set_ 0 (.slice A' os.length c')).cell 0
          rw [e1] at e2
          simpa using e2
        subst hv'
        refine Lib.hid ⟨_, h1, h2, h3, ?_, ?_, hgB, h2.size⟩
        · rcases hq : (Value.slice X I cx).ownBlock with _ | q
          · exact (hown2.out.kept hg3 (.inl hq)).kept (but_set_ w3 g 0 _) (.inl hq)
          · have h5 := hX q hq
            refine (hown2.out.kept hg3 (.inr fun e => ?_)).kept (but_set_ w3 g 0 _) (.inr fun e => ?_)
            · rw [hq] at e
              have := hvl q e.symm
              omega
            · rw [hq] at e
              have := Option.some.inj e
              omega
        · intro q hq e
          have h5 := hX q e
          rcases hat3 q hq with h | h
          · have := hvl q h
            omega
          · omega
      clear hR hown3 hg3 hat3 hvl hX hd hg2 hgB hb1 hsz1 ho2
      go_wp2_with fail
      go_loopw [54] (fun i wr => ∃ k : Nat, k ≤ I ∧ i = .int .i64 k ∧ Hid (MvInv base g w1.heap.size I (.slice (some ⟨ab, 0, none⟩) l.length c) (.slice X I cx) ms (puts os ((ms.map (shP by_)).take k)) w wr)) (fun i _ => I - (intOf i).toNat)
      case atStart => exact ⟨0, by omega, rfl, hM.out⟩
      case round =>
        clear hM hc3 hf3
        obtain ⟨k, hk, rfl, hE⟩ := hrel
        have j0 : (0 : Int) ≤ (k : Int) := by omega
        by_cases hlt : k < I
        · obtain ⟨v', ho, hbut, hsn, hrow, hap, hgB, hsz⟩ := hE.out
          have hrr := Reads.of_own hrow
          obtain ⟨b, o, rfl, hbB⟩ := reads_head hrr (by omega) (by decide)
          obtain ⟨p, hx, p0, p1⟩ := prs_at hrr hlt
          have hst := puts_step' (base := os) (ts := ms.map (shP by_)) (k := k) (t := shP by_ p) (by rw [List.getElem?_map, hx]; rfl)
          have htk := hsh.out p (List.mem_of_getElem? hx)
          have hpl : (puts os ((ms.map (shP by_)).take k)).length ≤ 800000 := by
            have h1 := puts_len ((ms.map (shP by_)).take k) os
            have h2 : ((ms.map (shP by_)).take k).length ≤ k := List.length_take_le _ _
            omega
          obtain ⟨wr1, hwr1⟩ : ∃ wr1, wr1 = wr.alloc (.cells #[.int .u64 p.key, .int .u64 p.val] 38) := ⟨_, rfl⟩
          have hbw : Below wr.heap.size wr wr1 := by rw [hwr1]; exact (Below.refl _ _).alloc (Nat.le_refl _) _
          have hset := setO_any (puts os ((ms.map (shP by_)).take k)) base g v' (p.key + by_) p.val wr1 (ho.below hbw) hpl
          have hH2 := Lib.hid (And.intro ho (And.intro hbut (And.intro hsn (And.intro hrow (And.intro hap (And.intro hgB (And.intro hsz hbw)))))))
          have hst := Lib.hid hst
          obtain ⟨mk, mw⟩ := p
          dsimp only at p0 p1 htk hwr1 hset
          have j1 : (k : Int) < (I : Int) := by omega
          clear hx ho hbut hsn hrow hap hgB hsz hbw hE
          go_wp2_with fail
          rw [← hwr1]
          refine hset.mono ?_
          rintro e w5 ⟨⟨v5, rfl⟩, hO⟩
          have hE5 : Hid (MvInv base g w1.heap.size I (.slice (some ⟨ab, 0, none⟩) l.length c) (.slice (some ⟨b, o, none⟩) I cx) ms (puts os ((ms.map (shP by_)).take (k + 1))) w w5) := by
            obtain ⟨ho, hbut, hsn, hrow, hap, hgB, hsz, hbw⟩ := hH2.out
            unfold Hid
            rw [hst.out]
            exact MvInv.step ho hbut hsn hrow hap hgB hsz hbw hO
          clear hO hset hH2 hwr1
          go_wp2_with fail
          go_roundw
          case rel => exact ⟨k + 1, by omega, by go_num, hE5⟩
          case measure => simp [intOf]; omega
        · obtain rfl : k = I := by omega
          have hE4 : Hid (OEnd base g (.slice (some ⟨ab, 0, none⟩) l.length c) (moved lo hi by_ l) w wr) := by
            obtain ⟨v', ho, hbut, hsn, _⟩ := hE.out
            rw [List.take_of_length_le (by rw [List.length_map, hIL.out]; exact Nat.le_refl _)] at ho
            unfold Hid
            rw [hmv.out]
            exact ⟨v', ho, hbut, hsn⟩
          go_wp2_with fail
          go_ret2
          exact ⟨by rw [hIL.out]; rfl, hE4.out⟩
    · go_wp2_with fail
      refine (hcl.out _ _ _ (by rw [hI.out]) (hread.out _ rfl)).mono ?_
      rintro e w2 ⟨X, cx, rfl, hown2, hb2⟩
      obtain ⟨ho1, hb1⟩ := hH.out
      have ho2 := ho1.below hb2
      have hg2 : w2.cell? ⟨g, 0, none⟩ = some (.slice (some ⟨ab, 0, none⟩) n c) := by rw [hb2.cell ho1.blk.lt]; exact hg
      have hd := hdel.out w2 hb2
      have hIe : ms.length ≤ 400000 := by rw [hI.out]; omega
      obtain ⟨I, hI2⟩ : ∃ I, ms.length = I := ⟨_, rfl⟩
      have hIL := Lib.hid hI2
      rw [hI2] at hown2 hIe ⊢
      have hown2 := Lib.hid hown2
      have hb2 := Lib.hid hb2
      have ho2 := Lib.hid ho2
      clear hdel hread hcl ho1 hb1 hg hI2 hs1
      go_wp2_with fail
      refine hd.mono ?_
      rintro e w3 ⟨A', c', rfl, hown3, hg3, hat3⟩
      rw [hN.out] at hg3 hat3
      have hb1 := hH.out.2
      have hsz1 := hb1.size
      have hvl := hvlt.out
      have hR := rewrite_map (w := w) (w1 := w2) ho2.out (hb1.trans (hb2.out.mono hsz1)) (by have := hb2.out.size; omega) hown3 hg3 hat3 hso.out (by omega) hvl
      have hc3 : w3.cell? ⟨g, 0, none⟩ = some (.slice (some ⟨ab, 0, none⟩) l.length c) := by simpa using hR.2.cell 0
      have hf3 := hR.2.frozen 0
      have hgB : g < w1.heap.size := hH.out.1.blk.lt
      have hX : ∀ q, (Value.slice X I cx).ownBlock = some q → w1.heap.size ≤ q ∧ q < w2.heap.size := fun q hq => hown2.out.lt q hq
      have hM : Hid (MvInv base g w1.heap.size I (.slice (some ⟨ab, 0, none⟩) l.length c) (.slice X I cx) ms os w (w3.setCell ⟨g, 0, none⟩ (.slice A' os.length c'))) := by
        obtain ⟨v', h1, h2, h3⟩ := hR.1
        have hv' : v' = .slice A' os.length c' := by
          have e1 := h1.blk.cell 0
          have e2 := (hR.2.set_ 0 (.slice A' os.length c')).cell 0
          rw [e1] at e2
          simpa using e2
        subst hv'
        refine Lib.hid ⟨_, h1, h2, h3, ?_, ?_, hgB, h2.size⟩
        · rcases hq : (Value.slice X I cx).ownBlock with _ | q
          · exact (hown2.out.kept hg3 (.inl hq)).kept (but_set_ w3 g 0 _) (.inl hq)
          · have h5 := hX q hq
            refine (hown2.out.kept hg3 (.inr fun e => ?_)).kept (but_set_ w3 g 0 _) (.inr fun e => ?_)
            · rw [hq] at e
              have := hvl q e.symm
              omega
            · rw [hq] at e
              have := Option.some.inj e
              omega
        · intro q hq e
          have h5 := hX q e
          rcases hat3 q hq with h | h
          · have := hvl q h
            omega
          · omega
      clear hR hown3 hg3 hat3 hvl hX hd hg2 hgB hb1 hsz1 ho2
      go_wp2_with fail
      go_loopw [54] (fun i wr => ∃ k : Nat, k ≤ I ∧ i = .int .i64 k ∧ Hid (MvInv base g w1.heap.size I (.slice (some ⟨ab, 0, none⟩) l.length c) (.slice X I cx) ms (puts os ((ms.map (shP by_)).take k)) w wr)) (fun i _ => I - (intOf i).toNat)
      case atStart => exact ⟨0, by omega, rfl, hM.out⟩
      case round =>
        clear hM hc3 hf3
        obtain ⟨k, hk, rfl, hE⟩ := hrel
        have j0 : (0 : Int) ≤ (k : Int) := by omega
        by_cases hlt : k < I
        · obtain ⟨v', ho, hbut, hsn, hrow, hap, hgB, hsz⟩ := hE.out
          have hrr := Reads.of_own hrow
          obtain ⟨b, o, rfl, hbB⟩ := reads_head hrr (by omega) (by decide)
          obtain ⟨p, hx, p0, p1⟩ := prs_at hrr hlt
          have hst := puts_step' (base := os) (ts := ms.map (shP by_)) (k := k) (t := shP by_ p) (by rw [List.getElem?_map, hx]; rfl)
          have htk := hsh.out p (List.mem_of_getElem? hx)
          have hpl : (puts os ((ms.map (shP by_)).take k)).length ≤ 800000 := by
            have h1 := puts_len ((ms.map (shP by_)).take k) os
            have h2 : ((ms.map (shP by_)).take k).length ≤ k := List.length_take_le _ _
            omega
          obtain ⟨wr1, hwr1⟩ : ∃ wr1, wr1 = wr.alloc (.cells #[.int .u64 p.key, .int .u64 p.val] 38) := ⟨_, rfl⟩
          have hbw : Below wr.heap.size wr wr1 := by rw [hwr1]; exact (Below.refl _ _).alloc (Nat.le_refl _) _
          have hset := setO_any (puts os ((ms.map (shP by_)).take k)) base g v' (p.key + by_) p.val wr1 (ho.below hbw) hpl
          have hH2 := Lib.hid (And.intro ho (And.intro hbut (And.intro hsn (And.intro hrow (And.intro hap (And.intro hgB (And.intro hsz hbw)))))))
          have hst := Lib.hid hst
          obtain ⟨mk, mw⟩ := p
          dsimp only at p0 p1 htk hwr1 hset
          have j1 : (k : Int) < (I : Int) := by omega
          clear hx ho hbut hsn hrow hap hgB hsz hbw hE
          go_wp2_with fail
          rw [← hwr1]
          refine hset.mono ?_
          rintro e w5 ⟨⟨v5, rfl⟩, hO⟩
          have hE5 : Hid (MvInv base g w1.heap.size I (.slice (some ⟨ab, 0, none⟩) l.length c) (.slice (some ⟨b, o, none⟩) I cx) ms (puts os ((ms.map (shP by_)).take (k + 1))) w w5) := by
            obtain ⟨ho, hbut, hsn, hrow, hap, hgB, hsz, hbw⟩ := hH2.out
            unfold Hid
            rw [hst.out]
            exact MvInv.step ho hbut hsn hrow hap hgB hsz hbw hO
          clear hO hset hH2 hwr1
          go_wp2_with fail
          go_roundw
          case rel => exact ⟨k + 1, by omega, by go_num, hE5⟩
          case measure => simp [intOf]; omega
        · obtain rfl : k = I := by omega
          have hE4 : Hid (OEnd base g (.slice (some ⟨ab, 0, none⟩) l.length c) (moved lo hi by_ l) w wr) := by
            obtain ⟨v', ho, hbut, hsn, _⟩ := hE.out
            rw [List.take_of_length_le (by rw [List.length_map, hIL.out]; exact Nat.le_refl _)] at ho
            unfold Hid
            rw [hmv.out]
            exact ⟨v', ho, hbut, hsn⟩
          go_wp2_with fail
          go_ret2
          exact ⟨by rw [hIL.out]; rfl, hE4.out⟩
end Go.Proofs.Ytfghkmhabpagkaa
