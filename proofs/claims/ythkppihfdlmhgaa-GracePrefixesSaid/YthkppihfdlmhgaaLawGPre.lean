/- The law GracePrefixes, walked (printed by gen_lawpre.py). -/
import Derived.Test.YthkppihfdlmhgaaLawOver
namespace Go.Proofs.Ythkppihfdlmhgaa
open Go Go.RowKit
set_option linter.unusedVariables false

theorem earB_take {l : List Ev} {m k : Nat} (h : k ≤ m) (x : Ev) : earB (l.take m) k x = earB l k x := by
  unfold earB
  rw [List.take_take, Nat.min_eq_left h]
theorem late_take {l : List Ev} {m k : Nat} (hk : k ≤ m) (h : LateTo l k) : LateTo (l.take m) k := fun j e hj he => by
  rw [earB_take (by omega)]
  rw [List.getElem?_take] at he
  split at he
  · exact h j e hj he
  · cases he
theorem late_less {l : List Ev} {m k : Nat} (hk : k ≤ m) (h : LateTo l m) : LateTo l k := fun j e hj he => h j e (by omega) he
theorem g_take_early {l : List Ev} {i : Nat} {e : Ev} (hf : FineTo l l.length) (he : l[i]? = some e) (hl : LateTo l i) (hg : earB l i e = true) : gAt (l.take (i + 1)) = i ∧ gEr (l.take (i + 1)) = 19 :=
  gk_one (gk_at _) (.inr (.inl ⟨fine_take hf _, i, e, by rw [List.getElem?_take, if_pos (by omega)]; exact he, late_take (by omega) hl, by rw [earB_take (by omega)]; exact hg, rfl, rfl⟩))
theorem g_take_ok {l : List Ev} {m : Nat} (hf : FineTo l l.length) (hl : LateTo l m) : gAt (l.take m) = 0 ∧ gEr (l.take m) = 0 :=
  gk_one (gk_at _) (.inr (.inr ⟨fine_take hf _, late_take (by rw [List.length_take]; omega) (late_less (by rw [List.length_take]; omega) hl), rfl, rfl⟩))
theorem g_cases (l : List Ev) : (gEr l = 15) ∨ (FineTo l l.length ∧ ∃ (i : Nat) (e : Ev), l[i]? = some e ∧ e.kind = 4 ∧ LateTo l i ∧ earB l i e = true ∧ gAt l = i ∧ gEr l = 19) ∨ (FineTo l l.length ∧ LateTo l l.length ∧ gAt l = 0 ∧ gEr l = 0) := by
  rcases gk_at l with ⟨_, _, h⟩ | ⟨hf, i, e, he, hl, hg, h1, h2⟩ | h
  · exact .inl h
  · refine .inr (.inl ⟨hf, i, e, he, ?_, hl, hg, h1, h2⟩)
    unfold earB at hg
    simp at hg
    exact hg.1
  · exact .inr (.inr h)

set_option maxRecDepth 100000 in
set_option maxHeartbeats 8000000 in
theorem gpre_core (t : Int) (A : Option Addr) (n c : Nat) (l : List Ev) (w : World) (hr : Hid (Reads w w.heap.size 4 A n (evs l))) (hnc : n ≤ c) (hc : c ≤ 9223372036854775807) (hw : WfE l) :
    Calls Try.prog 7 #[.slice A n c, .int .i64 t] w fun e w' => e = .returned (.bool true) ∧ Below w.heap.size w w' := by
  obtain ⟨L, hL⟩ : ∃ L, Hid (l.take 80 = L) := ⟨_, rfl⟩
  have hwL := Lib.hid (show WfE L by rw [← hL.out]; exact wf_take hw 80)
  have hlen : Hid (L.length ≤ 80) := by unfold Hid; rw [← hL.out, List.length_take]; omega
  go_enter Try.func7, Try.ntmps7
  have hb0 : Hid (Below w.heap.size w w) := Below.refl _ _
  go_wp2_with fail
  refine (few_at l A n c w hr hnc hc).mono ?_
  rintro e w1 ⟨A1, n1, c1, hE, hn, ho, hb⟩
  rw [hL.out] at hn ho
  have hm1 : n1 ≤ 80 := by have := hlen.out; omega
  have hn1 := Lib.hid hn
  clear hn
  subst hE
  obtain ⟨zz, hk1, hk1'⟩ := own_reads ho
  clear ho
  have hb1 := below_on hb0 hb
  have a1 := zz
  clear hb0 hb hr
  clear zz
  go_wp2_with fail
  refine (gcheck_at L A1 n1 c1 w1 a1 (by omega) hwL).mono ?_
  rintro e w2 ⟨hE, hb⟩
  skip
  have hb2 := below_on hb1 hb
  have a2 := reads_on a1 hb
  clear hb1 hb a1
  rcases g_cases L with h15 | ⟨hf, i, x, hx, hx4, hl, hg, ha, h19⟩ | ⟨hf, hl, ha, h0⟩
  · rw [h15] at hE
    subst hE
    clear h15
    generalize gAt L = at0
    go_wp2_with fail
    refine (awake_any _).mono ?_
    rintro e w9 ⟨rfl, hb⟩
    have hb9 := below_on hb2 hb
    clear hb
    go_wp2_with fail
    go_ret
    exact ⟨rfl, hb9.out⟩

  · rw [ha, h19] at hE
    subst hE
    have hF := Lib.hid hf
    have hLa := Lib.hid hl
    have hT := Lib.hid (g_take_early hf hx hl hg)
    have hU := Lib.hid (g_take_ok hf hl)
    have hi := (List.getElem?_eq_some_iff.1 hx).1
    have hin : i < n1 := by have := hn1.out; omega
    clear ha h19 hf hl hg hi
    obtain ⟨b, o, rfl, hbB⟩ := reads_head a2.out (by omega) (by decide)
    obtain ⟨⟨es, et, ek, ev⟩, he0, c0, c1', c2', c3⟩ := ev_at a2.out hin
    obtain rfl := Option.some.inj (hx.symm.trans he0)
    dsimp only at c0 c1' c2' c3 hx4
    subst hx4
    have ra : Hid (Reads w2 w2.heap.size 4 (some ⟨b, o, none⟩) (i + 1) (evs (L.take (i + 1)))) := by
      have h := a2.out.take_ (m := i + 1) (by omega)
      rw [evs_take] at h
      exact h
    have rb : Hid (Reads w2 w2.heap.size 4 (some ⟨b, o, none⟩) i (evs (L.take i))) := by
      have h := a2.out.take_ (m := i) (by omega)
      rw [evs_take] at h
      exact h
    have hw1 := Lib.hid (fun p hp => hwL.out p (List.mem_of_mem_take hp) : WfE (L.take (i + 1)))
    have hw2 := Lib.hid (fun p hp => hwL.out p (List.mem_of_mem_take hp) : WfE (L.take i))
    have i0 : (0 : Int) ≤ (i : Int) := by omega
    have i1 : (i : Int) < (n1 : Int) := by omega
    have i2 : ¬ ((n1 : Int) ≤ (i : Int)) := by omega
    have i3 : ((i + 1 : Nat) : Int) ≤ (c1 : Int) := by omega
    have i4 : (i : Int) ≤ (c1 : Int) := by omega
    have i5 : IntKind.i64.wrap ((i : Int) + 1) = (i : Int) + 1 := wrap_i64 (by omega) (by omega)
    have i6 : (0 : Int) ≤ (i : Int) + 1 := by omega
    have i7 : (i : Int) + 1 ≤ (c1 : Int) := by omega
    have i8 : ((i : Int) + 1).toNat = i + 1 := by omega
    clear hx he0 c0 c1' c3
    go_wp2_with fail
    refine (gcheck_at (L.take (i + 1)) (some ⟨b, o, none⟩) (i + 1) c1 w2 ra (by omega) hw1).mono ?_
    rintro e w5 ⟨hE, hb⟩
    rw [hT.out.1, hT.out.2] at hE
    subst hE
    have hb5 := below_on hb2 hb
    have rb5 := reads_on rb hb
    clear hb ra rb hT hb2
    go_wp2_with fail
    refine (gcheck_at (L.take i) (some ⟨b, o, none⟩) i c1 w5 rb5 (by omega) hw2).mono ?_
    rintro e w6 ⟨hE, hb⟩
    rw [hU.out.1, hU.out.2] at hE
    subst hE
    have hb6 := below_on hb5 hb
    clear hb hb5 rb5 hU
    go_wp2_with fail
    refine (awake_any _).mono ?_
    rintro e w9 ⟨rfl, hb⟩
    have hb9 := below_on hb6 hb
    clear hb
    go_wp2_with fail
    go_ret
    exact ⟨rfl, hb9.out⟩

  · rw [ha, h0] at hE
    subst hE
    have hF := Lib.hid hf
    have hLa := Lib.hid hl
    clear ha h0 hf hl
    by_cases ht : t < -1
    · have hz : lookEr L t = 3 := by unfold lookEr; rw [if_pos hF.out, if_pos ht]
      go_wp2_with fail
      refine (prefix_at L A1 n1 c1 w2 a2 (by omega) t).mono ?_
      rintro e w5 ⟨A2, n2, c2, hE, hn, ho, hb⟩
      rw [hz] at hE
      subst hE
      have hb5 := below_on hb2 hb
      clear hb hn ho hz hb2
      go_wp2_with fail
      refine (awake_any _).mono ?_
      rintro e w9 ⟨rfl, hb⟩
      have hb9 := below_on hb5 hb
      clear hb
      go_wp2_with fail
      go_ret
      exact ⟨rfl, hb9.out⟩

    · have hz : lookEr L t = 0 := lookEr_fine hF.out ht
      obtain ⟨m, hm, hpm, _, _⟩ := pre_take hF.out t
      have hP : Hid (preL L t = L.take m) := by unfold Hid; rw [preL_fine hF.out ht]; exact hpm
      have hU := Lib.hid (g_take_ok hF.out (late_less hm hLa.out))
      have hw2 := Lib.hid (fun p hp => hwL.out p (List.mem_of_mem_take hp) : WfE (L.take m))
      clear hm hpm
      go_wp2_with fail
      refine (prefix_at L A1 n1 c1 w2 a2 (by omega) t).mono ?_
      rintro e w5 ⟨A2, n2, c2, hE, hn, ho, hb⟩
      rw [hz] at hE
      rw [hP.out] at hn ho
      subst hE
      have hb5 := below_on hb2 hb
      have hm2 : n2 ≤ 80 := by rw [hn, List.length_take]; have := hlen.out; omega
      obtain ⟨r2, hk2, hk2'⟩ := own_reads ho
      clear hb hn ho hz hb2
      go_wp2_with fail
      refine (gcheck_at (L.take m) A2 n2 c2 w5 r2 (by omega) hw2).mono ?_
      rintro e w6 ⟨hE, hb⟩
      rw [hU.out.1, hU.out.2] at hE
      subst hE
      have hb6 := below_on hb5 hb
      clear hb hb5 r2 hU
      go_wp2_with fail
      refine (awake_any _).mono ?_
      rintro e w9 ⟨rfl, hb⟩
      have hb9 := below_on hb6 hb
      clear hb
      go_wp2_with fail
      go_ret
      exact ⟨rfl, hb9.out⟩
theorem gprefixes_law (A : Option Addr) (n c : Nat) (l : List Ev) (t : Int) (w : World) (hI : IsEvents w A n c l) (wt : (Lit.int .i64 t).wf = true) :
    Calls Try.prog 7 #[.slice A n c, .int .i64 t] w fun e w' => e = .returned (.bool true) ∧ Below w.heap.size w w' :=
  gpre_core t A n c l w hI.reads hI.le (by have := hI.cap; unfold maxLen at this; exact this) (wf_ev hI)
end Go.Proofs.Ythkppihfdlmhgaa
