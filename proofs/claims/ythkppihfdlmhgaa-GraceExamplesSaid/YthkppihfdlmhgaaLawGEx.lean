/- The law GraceExamples, walked (printed by gen_lawgex.py). -/
import Derived.Test.YthkppihfdlmhgaaLawGM
import Derived.Deep.RegionHeld3
import Derived.Deep.DrawnRows
import Derived.Deep.CutBlock
import Derived.Deep.RegionLawGrows
import Derived.Deep.Upon
namespace Go.Proofs.Ythkppihfdlmhgaa
open Go Go.RowKit
set_option linter.unusedVariables false
attribute [local go_sem ↓] Go.wp_at_zero Go.wp_at_succ

/-- A slice of events, whichever they are. -/
def EvtG (w : World) (A : Option Addr) (n : Nat) : Prop := ∃ l, WfE l ∧ Reads w w.heap.size 4 A n (evs l)
theorem evt_on {w w' : World} {A : Option Addr} {n : Nat} (h : Hid (EvtG w A n)) (hb : Below w.heap.size w w') : Hid (EvtG w' A n) := by
  obtain ⟨l, h0, h⟩ := h.out
  exact ⟨l, h0, (h.below hb).more hb.size⟩
theorem blk_on {w w' : World} {g : Nat} {T : TypeId} {cs : Array Value} (h : Hid (Blk w g T cs)) (hb : Below w.heap.size w w') : Hid (Blk w' g T cs) := h.out.below hb h.out.lt
theorem evt_nil (w : World) : Hid (EvtG w none 0) := ⟨[], fun p hp => by simp at hp, Reads.none_⟩
theorem evt_blk {w : World} {g : Nat} {l : List Ev} (hw : WfE l) (h : Blk w g 37 (evs l).toArray) : Hid (EvtG w (some ⟨g, 0, none⟩) l.length) := ⟨l, hw, (reads_blk h (evs_len l)).out⟩
theorem wf_set {l : List Ev} (h : WfE l) (i : Nat) (x : Ev) (hx : x.step ≤ 9223372036854775807 ∧ 0 ≤ x.val ∧ x.val < 18446744073709551616) : WfE (l.set i x) := fun p hp => by
  rcases List.mem_or_eq_of_mem_set hp with h1 | rfl
  · exact h p h1
  · exact hx
theorem u64_lo (x : Int) : 0 ≤ IntKind.u64.wrap x := by
  unfold IntKind.wrap
  simp [IntKind.bits, IntKind.signed]
  omega
theorem u64_hi (x : Int) : IntKind.u64.wrap x < 18446744073709551616 := by
  unfold IntKind.wrap
  simp [IntKind.bits, IntKind.signed]
  omega
theorem evs_fs0 : ∀ (l : List Ev) (i : Nat) (e : Ev) (x : Int), l[i]? = some e → evs (l.set i { e with step := x }) = (evs l).set (i * 4 + 0) (.int .i64 x)
  | [], i, e, x, h => by cases h
  | y :: l, 0, e, x, h => by
    obtain rfl := Option.some.inj h
    rfl
  | y :: l, i + 1, e, x, h => by
    have ih := evs_fs0 l i e x h
    rw [List.set_cons_succ]
    unfold evs at ih ⊢
    rw [List.flatMap_cons, List.flatMap_cons, ih, List.set_append_right _ _ (by rw [evC_len]; omega), evC_len, show (i + 1) * 4 + 0 - 4 = i * 4 + 0 by omega]
theorem blk_fs0 {w : World} {g i : Nat} (h : Hid (Blk w g 37 exGC)) (hi : i < 5) (x : Int) (hx : x ≤ 9223372036854775807) : ∃ l, Hid (l.length = 5 ∧ WfE l) ∧ Hid (Blk (w.setCell ⟨g, i * 4 + 0, none⟩ (.int .i64 x)) g 37 (evs l).toArray) := by
  have h2 := h.out.set_ (i * 4 + 0) (.int .i64 x)
  have he : exG[i]? = some exG[i] := List.getElem?_eq_getElem (by show i < 5; omega)
  have hs := evs_fs0 exG i _ x he
  have hC : exGC.setIfInBounds (i * 4 + 0) (.int .i64 x) = (evs (exG.set i { exG[i] with step := x })).toArray := by
    rw [hs]
    unfold exGC
    rw [List.setIfInBounds_toArray]
  rw [hC] at h2
  have hq : WfE (exG.set i { exG[i] with step := x }) := wf_set exG_wf i _ ⟨hx, (exG_wf _ (List.mem_of_getElem? he)).2⟩
  exact ⟨_, ⟨by rw [List.length_set]; rfl, hq⟩, h2⟩
theorem ex_cell0 {w : World} {g i : Nat} (h : Hid (Blk w g 37 exGC)) (hi : i < 5) : ∃ u, w.cell? ⟨g, i * 4 + 0, none⟩ = some u := by
  have hl : i * 4 + 0 < exGC.size := by show _ < 20; omega
  exact ⟨exGC[i * 4 + 0], by rw [h.out.cell]; exact Array.getElem?_eq_getElem hl⟩
theorem evs_fs1 : ∀ (l : List Ev) (i : Nat) (e : Ev) (x : Int), l[i]? = some e → evs (l.set i { e with thread := x }) = (evs l).set (i * 4 + 1) (.int .i64 x)
  | [], i, e, x, h => by cases h
  | y :: l, 0, e, x, h => by
    obtain rfl := Option.some.inj h
    rfl
  | y :: l, i + 1, e, x, h => by
    have ih := evs_fs1 l i e x h
    rw [List.set_cons_succ]
    unfold evs at ih ⊢
    rw [List.flatMap_cons, List.flatMap_cons, ih, List.set_append_right _ _ (by rw [evC_len]; omega), evC_len, show (i + 1) * 4 + 1 - 4 = i * 4 + 1 by omega]
theorem blk_fs1 {w : World} {g i : Nat} (h : Hid (Blk w g 37 exGC)) (hi : i < 5) (x : Int)  : ∃ l, Hid (l.length = 5 ∧ WfE l) ∧ Hid (Blk (w.setCell ⟨g, i * 4 + 1, none⟩ (.int .i64 x)) g 37 (evs l).toArray) := by
  have h2 := h.out.set_ (i * 4 + 1) (.int .i64 x)
  have he : exG[i]? = some exG[i] := List.getElem?_eq_getElem (by show i < 5; omega)
  have hs := evs_fs1 exG i _ x he
  have hC : exGC.setIfInBounds (i * 4 + 1) (.int .i64 x) = (evs (exG.set i { exG[i] with thread := x })).toArray := by
    rw [hs]
    unfold exGC
    rw [List.setIfInBounds_toArray]
  rw [hC] at h2
  have hq : WfE (exG.set i { exG[i] with thread := x }) := wf_set exG_wf i _ (exG_wf exG[i] (List.mem_of_getElem? he))
  exact ⟨_, ⟨by rw [List.length_set]; rfl, hq⟩, h2⟩
theorem ex_cell1 {w : World} {g i : Nat} (h : Hid (Blk w g 37 exGC)) (hi : i < 5) : ∃ u, w.cell? ⟨g, i * 4 + 1, none⟩ = some u := by
  have hl : i * 4 + 1 < exGC.size := by show _ < 20; omega
  exact ⟨exGC[i * 4 + 1], by rw [h.out.cell]; exact Array.getElem?_eq_getElem hl⟩
theorem evs_fs3 : ∀ (l : List Ev) (i : Nat) (e : Ev) (x : Int), l[i]? = some e → evs (l.set i { e with val := x }) = (evs l).set (i * 4 + 3) (.int .u64 x)
  | [], i, e, x, h => by cases h
  | y :: l, 0, e, x, h => by
    obtain rfl := Option.some.inj h
    rfl
  | y :: l, i + 1, e, x, h => by
    have ih := evs_fs3 l i e x h
    rw [List.set_cons_succ]
    unfold evs at ih ⊢
    rw [List.flatMap_cons, List.flatMap_cons, ih, List.set_append_right _ _ (by rw [evC_len]; omega), evC_len, show (i + 1) * 4 + 3 - 4 = i * 4 + 3 by omega]
theorem blk_fs3 {w : World} {g i : Nat} (h : Hid (Blk w g 37 exGC)) (hi : i < 5) (x : Int) (hx : 0 ≤ x ∧ x < 18446744073709551616) : ∃ l, Hid (l.length = 5 ∧ WfE l) ∧ Hid (Blk (w.setCell ⟨g, i * 4 + 3, none⟩ (.int .u64 x)) g 37 (evs l).toArray) := by
  have h2 := h.out.set_ (i * 4 + 3) (.int .u64 x)
  have he : exG[i]? = some exG[i] := List.getElem?_eq_getElem (by show i < 5; omega)
  have hs := evs_fs3 exG i _ x he
  have hC : exGC.setIfInBounds (i * 4 + 3) (.int .u64 x) = (evs (exG.set i { exG[i] with val := x })).toArray := by
    rw [hs]
    unfold exGC
    rw [List.setIfInBounds_toArray]
  rw [hC] at h2
  have hq : WfE (exG.set i { exG[i] with val := x }) := wf_set exG_wf i _ ⟨(exG_wf _ (List.mem_of_getElem? he)).1, hx⟩
  exact ⟨_, ⟨by rw [List.length_set]; rfl, hq⟩, h2⟩
theorem ex_cell3 {w : World} {g i : Nat} (h : Hid (Blk w g 37 exGC)) (hi : i < 5) : ∃ u, w.cell? ⟨g, i * 4 + 3, none⟩ = some u := by
  have hl : i * 4 + 3 < exGC.size := by show _ < 20; omega
  exact ⟨exGC[i * 4 + 3], by rw [h.out.cell]; exact Array.getElem?_eq_getElem hl⟩
theorem evs_drop (l : List Ev) (k : Nat) : (evs l).drop (k * 4) = evs (l.drop k) := by
  induction k generalizing l with
  | zero => rfl
  | succ k ih =>
    cases l with
    | nil => simp [evs]
    | cons e l =>
      rw [List.drop_succ_cons, ← ih l]
      unfold evs
      rw [List.flatMap_cons, show (k + 1) * 4 = (evC e).length + k * 4 by rw [evC_len]; omega, List.drop_append]
      simp
theorem firstG {w : World} {X : Nat} (k : Nat) (h : Hid (Reads w w.heap.size 4 (some ⟨X, 0, none⟩) 5 (evs exG))) : ∀ j u, (evs (exG.take k))[j]? = some u → w.cell? ((⟨X, 0, none⟩ : Addr).add j) = some u := by
  intro j u hu
  obtain ⟨a, e, _, hc⟩ := h.out.2 (by omega)
  obtain rfl := Option.some.inj e
  refine hc j u ?_
  rw [← evs_take, List.getElem?_take] at hu
  split at hu
  · exact hu
  · cases hu
theorem restG {w : World} {Y : Nat} (k : Nat) (h : Hid (Reads w w.heap.size 4 (some ⟨Y, 0, none⟩) 5 (evs exG))) (hk : k < 5) : ∀ j u, (evs (exG.drop k))[j]? = some u → w.cell? ((⟨Y, k * 4, none⟩ : Addr).add j) = some u := by
  have h2 := h.out.cut (k := k) (cap := 5) (by omega) (Nat.le_refl _)
  rw [if_neg (by omega), evs_drop, Option.map_some, Addr.add_lit, Nat.zero_add] at h2
  intro j u hu
  obtain ⟨a, e, _, hc⟩ := h2.2 (by omega)
  obtain rfl := Option.some.inj e
  exact hc j u hu
theorem take_wf (k : Nat) : WfE (exG.take k ++ exG.drop (k + 1)) := fun p hp => by
  rcases List.mem_append.1 hp with h | h
  · exact exG_wf p (List.mem_of_mem_take h)
  · exact exG_wf p (List.mem_of_mem_drop h)
theorem step_append_nothing {P : Program} {ops : Array Oper} {o : Oper} {a : Act} {w : World} {K : Act → World → Prop} {Q : Exit → Act → World → Prop} {E : Prop}
    (hg : o.guard = none) (s x : Operand) (t : TypeId) (hop : o.op = Op.call { callee := Callee.builtin Builtin.append, args := #[s, x], argTypes := #[t, t] })
    (e : TypeId) (i : TypeInfo) (h1 : P.underlying t = some (.slice e)) (h2 : P.info? e = some i) (ao bo : Option Addr) (n cap c : Nat) (hs : a.eval s = .slice ao n cap) (hle : n ≤ cap) (hx : a.eval x = .slice bo 0 c)
    (hK : K (a.put o.dst (.slice ao n cap)) w) : if Region.wanted o (yielded ops a.tmps) = true then Oper.wp P o a w K Q else E := by
  have hw : Region.wanted o (yielded ops a.tmps) = true := by simp [Region.wanted, hg]
  rw [if_pos hw]
  have hrun : (Builtin.append_ #[t, t] o.type #[.slice ao n cap, .slice bo 0 c]).run P w = .ok (.slice ao n cap) w := by
    cases bo with
    | none => exact run_append_nothing w t t _ e i h1 h2 ao n cap hle _ (Src.ofNil w h1 c)
    | some b => exact run_append_nothing w t t _ e i h1 h2 ao n cap hle _ (Src.ofSlice w h1 b 0 c [] (by simp) (fun j u hu => by simp at hu) (fun u hu => by simp at hu))
  unfold Oper.wp
  simp [execOp, hop, resolve, invoke, builtin, hs, hx, hrun, Result.andThen]
  exact hK
theorem gm_e (A : Option Addr) (n c : Nat) (kw : Int) (w : World) (h : Hid (EvtG w A n)) (hnc : n ≤ c) (hcap : c ≤ 9223372036854775807) :
    Calls Try.prog 15 #[.slice A n c, .int .i64 kw] w fun e w' => e = .returned (.bool true) ∧ Below w.heap.size w w' := by
  obtain ⟨l, h0, h⟩ := h.out
  exact gmatches_core A n c l kw w h hnc hcap h0
theorem go_e (A : Option Addr) (n c : Nat) (t s : Int) (w : World) (h : Hid (EvtG w A n)) (hnc : n ≤ c) (hcap : c ≤ 9223372036854775807) (h0 : 0 ≤ s) (h1 : s < 18446744073709551616) :
    Calls Try.prog 3 #[.slice A n c, .int .i64 t, .int .u64 s] w fun e w' => e = .returned (.bool true) ∧ Below w.heap.size w w' := by
  obtain ⟨l, hw, h⟩ := h.out
  exact overs_core t s A n c l w h hnc hcap hw h0 h1
theorem exG_evt {w : World} {X : Nat} (h : Hid (Reads w w.heap.size 4 (some ⟨X, 0, none⟩) 5 (evs exG))) : Hid (EvtG w (some ⟨X, 0, none⟩) 5) := ⟨exG, exG_wf, h.out⟩

set_option maxRecDepth 100000 in
set_option maxHeartbeats 16000000 in
theorem gexamples_law (w : World) :
    Calls Try.prog 4 #[] w fun e w' => e = .returned (.bool true) ∧ Below w.heap.size w w' := by
  go_enter Try.func4, Try.ntmps4
  go_wp2_with fail
  go_loopg [1] 5 (fun g i wr => ∃ k : Nat, k + g = 5 ∧ i = .int .i64 k ∧ Hid (Below w.heap.size w wr))
  case atStart => exact ⟨0, by omega, rfl, Below.refl _ _⟩
  case round =>
    obtain ⟨k, hk, rfl, hbel⟩ := hrel
    have hk7 : k ≤ 5 := by omega
    go_wp2_with fail
    refine (example_any _).mono ?_
    rintro e w1 ⟨rfl, hrd, hblk, hb⟩
    have hb1 := below_on hbel hb
    clear hrd hblk hb hbel
    cases gk with
    | zero =>
      obtain rfl : k = 5 := by omega
      as_aux_lemma =>
        go_wp2_with fail
        refine (gm_e none 0 0 0 w1 (evt_nil w1) (Nat.le_refl _) (by decide)).mono ?_
        rintro e w2 ⟨rfl, hb⟩
        have hb2 := below_on hb1 hb
        clear hb hb1
        go_wp2_with fail
        refine (go_e none 0 0 (-1) 0 w2 (evt_nil w2) (Nat.le_refl _) (by decide) (by decide) (by decide)).mono ?_
        rintro e w3 ⟨rfl, hb⟩
        have hb3 := below_on hb2 hb
        clear hb hb2
        go_wp2_with fail
        refine (example_any w3).mono ?_
        rintro e w4 ⟨rfl, hrd, hblk, hb⟩
        have hb4 := below_on hb3 hb
        have hev := exG_evt hrd
        clear hb hb3 hrd hblk
        go_wp2_with fail
        refine (go_e (some ⟨w3.heap.size, 0, none⟩) 5 5 9223372036854775807 18446744073709551615 w4 hev (Nat.le_refl _) (by decide) (by decide) (by decide)).mono ?_
        rintro e w5 ⟨rfl, hb⟩
        have hb5 := below_on hb4 hb
        clear hb hb4 hev
        go_wp2_with fail
        refine (awake_any w5).mono ?_
        rintro e w6 ⟨rfl, hb⟩
        have hb6 := below_on hb5 hb
        clear hb hb5
        go_wp2_with fail
        go_ret
        exact ⟨rfl, hb6.out⟩
    | succ g =>
      have hk6 : k < 5 := by omega
      have hk6' : (k : Int) < 5 := by omega
      have k0 : (0 : Int) ≤ (k : Int) := by omega
      obtain ⟨i0, hi0, hz0, hz1, hz2⟩ := info_parts infoEv
      go_upto_region 4 with fail
      go_cut [2] from 13 to 22 (fun s2 wx => ∃ (A : Option Addr) (n c : Nat), s2 = .slice A n c ∧ n ≤ c ∧ c ≤ 9223372036854775807 ∧ Hid (EvtG wx A n) ∧ Hid (Below w.heap.size w wx))
      case first =>
        have hk5 : k = 0 ∨ k = 1 ∨ k = 2 ∨ k = 3 ∨ k = 4 := by omega
        clear hk hk7 hk6 hk6' k0
        rcases hk5 with rfl | rfl | rfl | rfl | rfl
        · as_aux_lemma =>
            have hwr : IntKind.i64.wrap 1 = 1 := by decide
            go_region_law? (first
              | (go_simp; go_at_call 14; refine (example_at wA wA.heap.size rfl).mono ?_; rintro e wB ⟨rfl, hr2, hk2, hq2⟩; have hr3 := reads_on hr1 hq2; have hbB := below_on hbA hq2; dsimp only)
              | (go_simp; go_at_call 14; refine (example_at w1.drew w1.heap.size rfl).mono ?_; rintro e wA ⟨rfl, hr1, hk1, hq1⟩; have hbA := below_on (Lib.hid hb1.out.drew) hq1; dsimp only)
              | (refine step_append_grows rfl (.tmp 16) (.tmp 20) 22 rfl 37 i0 _ 4 32 Try.underlying22 hi0 hz0 hz1 hz2 rfl (by decide) (some ⟨w1.heap.size, 0, none⟩) 0 0 (evs (exG.take 0)) rfl (by intro h; cases h) rfl ?ho0 ⟨wA.heap.size, 4, none⟩ 4 4 (evs (exG.drop 1)) rfl rfl ?hc0 (evs_one _) (by decide) (by decide) (by decide) ?kk0; (case ho0 => intro b hb; cases hb; exact firstG 0 hr3); (case hc0 => exact restG 1 hr2 (by decide)); intro v1 wC hown hgrow; obtain ⟨A1, c1, rfl, hc1, hc2⟩ := own_form hown))
            all_goals
              have hszB := hbB.out.size
              have hbC : Hid (Below w.heap.size w wC) := (hbB.out.grown hgrow hszB (fun k e => by cases e))
              have hev : Hid (EvtG wC A1 4) := ⟨exG.take 0 ++ exG.drop 1, take_wf 0, (own_reads (xs := evs (exG.take 0 ++ exG.drop 1)) (by rw [evs_append]; exact hown)).1.out⟩
              clear hown hgrow hr1 hr2 hr3 hk1 hk2 hq1 hq2 hbA hbB
              go_wp2_with fail
              go_meet
              exact ⟨A1, 4, c1, rfl, hc1, by unfold maxLen at hc2; omega, hev, hbC⟩
        · as_aux_lemma =>
            have hwr : IntKind.i64.wrap 2 = 2 := by decide
            go_region_law? (first
              | (go_simp; go_at_call 14; refine (example_at wA wA.heap.size rfl).mono ?_; rintro e wB ⟨rfl, hr2, hk2, hq2⟩; have hr3 := reads_on hr1 hq2; have hbB := below_on hbA hq2; dsimp only)
              | (go_simp; go_at_call 14; refine (example_at w1.drew w1.heap.size rfl).mono ?_; rintro e wA ⟨rfl, hr1, hk1, hq1⟩; have hbA := below_on (Lib.hid hb1.out.drew) hq1; dsimp only)
              | (refine step_append_grows rfl (.tmp 16) (.tmp 20) 22 rfl 37 i0 _ 4 32 Try.underlying22 hi0 hz0 hz1 hz2 rfl (by decide) (some ⟨w1.heap.size, 0, none⟩) 1 1 (evs (exG.take 1)) rfl (by intro h; cases h) rfl ?ho1 ⟨wA.heap.size, 8, none⟩ 3 3 (evs (exG.drop 2)) rfl rfl ?hc1 (evs_one _) (by decide) (by decide) (by decide) ?kk1; (case ho1 => intro b hb; cases hb; exact firstG 1 hr3); (case hc1 => exact restG 2 hr2 (by decide)); intro v1 wC hown hgrow; obtain ⟨A1, c1, rfl, hc1, hc2⟩ := own_form hown))
            all_goals
              have hszB := hbB.out.size
              have hbC : Hid (Below w.heap.size w wC) := (hbB.out.grown hgrow hszB (fun k e => by cases e))
              have hev : Hid (EvtG wC A1 4) := ⟨exG.take 1 ++ exG.drop 2, take_wf 1, (own_reads (xs := evs (exG.take 1 ++ exG.drop 2)) (by rw [evs_append]; exact hown)).1.out⟩
              clear hown hgrow hr1 hr2 hr3 hk1 hk2 hq1 hq2 hbA hbB
              go_wp2_with fail
              go_meet
              exact ⟨A1, 4, c1, rfl, hc1, by unfold maxLen at hc2; omega, hev, hbC⟩
        · as_aux_lemma =>
            have hwr : IntKind.i64.wrap 3 = 3 := by decide
            go_region_law? (first
              | (go_simp; go_at_call 14; refine (example_at wA wA.heap.size rfl).mono ?_; rintro e wB ⟨rfl, hr2, hk2, hq2⟩; have hr3 := reads_on hr1 hq2; have hbB := below_on hbA hq2; dsimp only)
              | (go_simp; go_at_call 14; refine (example_at w1.drew w1.heap.size rfl).mono ?_; rintro e wA ⟨rfl, hr1, hk1, hq1⟩; have hbA := below_on (Lib.hid hb1.out.drew) hq1; dsimp only)
              | (refine step_append_grows rfl (.tmp 16) (.tmp 20) 22 rfl 37 i0 _ 4 32 Try.underlying22 hi0 hz0 hz1 hz2 rfl (by decide) (some ⟨w1.heap.size, 0, none⟩) 2 2 (evs (exG.take 2)) rfl (by intro h; cases h) rfl ?ho2 ⟨wA.heap.size, 12, none⟩ 2 2 (evs (exG.drop 3)) rfl rfl ?hc2 (evs_one _) (by decide) (by decide) (by decide) ?kk2; (case ho2 => intro b hb; cases hb; exact firstG 2 hr3); (case hc2 => exact restG 3 hr2 (by decide)); intro v1 wC hown hgrow; obtain ⟨A1, c1, rfl, hc1, hc2⟩ := own_form hown))
            all_goals
              have hszB := hbB.out.size
              have hbC : Hid (Below w.heap.size w wC) := (hbB.out.grown hgrow hszB (fun k e => by cases e))
              have hev : Hid (EvtG wC A1 4) := ⟨exG.take 2 ++ exG.drop 3, take_wf 2, (own_reads (xs := evs (exG.take 2 ++ exG.drop 3)) (by rw [evs_append]; exact hown)).1.out⟩
              clear hown hgrow hr1 hr2 hr3 hk1 hk2 hq1 hq2 hbA hbB
              go_wp2_with fail
              go_meet
              exact ⟨A1, 4, c1, rfl, hc1, by unfold maxLen at hc2; omega, hev, hbC⟩
        · as_aux_lemma =>
            have hwr : IntKind.i64.wrap 4 = 4 := by decide
            go_region_law? (first
              | (go_simp; go_at_call 14; refine (example_at wA wA.heap.size rfl).mono ?_; rintro e wB ⟨rfl, hr2, hk2, hq2⟩; have hr3 := reads_on hr1 hq2; have hbB := below_on hbA hq2; dsimp only)
              | (go_simp; go_at_call 14; refine (example_at w1.drew w1.heap.size rfl).mono ?_; rintro e wA ⟨rfl, hr1, hk1, hq1⟩; have hbA := below_on (Lib.hid hb1.out.drew) hq1; dsimp only)
              | (refine step_append_grows rfl (.tmp 16) (.tmp 20) 22 rfl 37 i0 _ 4 32 Try.underlying22 hi0 hz0 hz1 hz2 rfl (by decide) (some ⟨w1.heap.size, 0, none⟩) 3 3 (evs (exG.take 3)) rfl (by intro h; cases h) rfl ?ho3 ⟨wA.heap.size, 16, none⟩ 1 1 (evs (exG.drop 4)) rfl rfl ?hc3 (evs_one _) (by decide) (by decide) (by decide) ?kk3; (case ho3 => intro b hb; cases hb; exact firstG 3 hr3); (case hc3 => exact restG 4 hr2 (by decide)); intro v1 wC hown hgrow; obtain ⟨A1, c1, rfl, hc1, hc2⟩ := own_form hown))
            all_goals
              have hszB := hbB.out.size
              have hbC : Hid (Below w.heap.size w wC) := (hbB.out.grown hgrow hszB (fun k e => by cases e))
              have hev : Hid (EvtG wC A1 4) := ⟨exG.take 3 ++ exG.drop 4, take_wf 3, (own_reads (xs := evs (exG.take 3 ++ exG.drop 4)) (by rw [evs_append]; exact hown)).1.out⟩
              clear hown hgrow hr1 hr2 hr3 hk1 hk2 hq1 hq2 hbA hbB
              go_wp2_with fail
              go_meet
              exact ⟨A1, 4, c1, rfl, hc1, by unfold maxLen at hc2; omega, hev, hbC⟩
        · as_aux_lemma =>
            have hwr : IntKind.i64.wrap 5 = 5 := by decide
            go_region_law? (first
              | (go_simp; go_at_call 14; refine (example_at wA wA.heap.size rfl).mono ?_; rintro e wB ⟨rfl, hr2, hk2, hq2⟩; have hr3 := reads_on hr1 hq2; have hbB := below_on hbA hq2; dsimp only)
              | (go_simp; go_at_call 14; refine (example_at w1.drew w1.heap.size rfl).mono ?_; rintro e wA ⟨rfl, hr1, hk1, hq1⟩; have hbA := below_on (Lib.hid hb1.out.drew) hq1; dsimp only)
              | (refine step_append_nothing rfl (.tmp 16) (.tmp 20) 22 rfl 37 i0 Try.underlying22 hi0 _ _ 4 4 _ rfl (by decide) rfl ?_))
            all_goals
              have hev : Hid (EvtG wB (some ⟨w1.heap.size, 0, none⟩) 4) := by
                have h2 := hr3.out.take_ (m := 4) (by omega)
                rw [evs_take] at h2
                exact ⟨exG.take 4, fun p hp => exG_wf p (List.mem_of_mem_take hp), h2⟩
              clear hr1 hr2 hr3 hk1 hk2 hq1 hq2 hbA
              go_wp2_with fail
              go_meet
              exact ⟨_, 4, 4, rfl, by omega, by omega, hev, hbB⟩
      case rest =>
        obtain ⟨A2, n2, c2, rfl, hn2, hc2, hev2, hb2⟩ := hcut
        obtain ⟨w20, rfl⟩ : ∃ w20 : World, w20 = wc := ⟨_, rfl⟩
        clear hb1
        go_wp2_with fail
        refine (gm_e A2 n2 c2 0 w20 hev2 hn2 hc2).mono ?_
        rintro e w21 ⟨rfl, hb⟩
        have hev3 := evt_on hev2 hb
        have hb21 := below_on hb2 hb
        clear hb hb2 hev2
        go_wp2_with fail
        refine (go_e A2 n2 c2 4 8 w21 hev3 hn2 hc2 (by decide) (by decide)).mono ?_
        rintro e w22 ⟨rfl, hb⟩
        have hb22 := below_on hb21 hb
        clear hb hb21 hev3
        go_wp2_with fail
        go_loopg [3] 11 (fun g v wr => ∃ m : Nat, m + g = 11 ∧ v = .int .i64 ((m : Int) - 1) ∧ Hid (Below w.heap.size w wr))
        case atStart => exact ⟨0, by omega, rfl, hb22.out⟩
        case round =>
          clear hb22
          obtain ⟨m, hm, rfl, hb2⟩ := hrel
          obtain ⟨nn, hnn⟩ : ∃ nn : Int, (m : Int) - 1 = nn := ⟨_, rfl⟩
          have hn1 : -1 ≤ nn := by omega
          have hn2' : nn ≤ 10 := by omega
          have hNN := Lib.hid hnn
          rw [hnn]
          clear hnn
          cases gk with
          | zero =>
            have hn3 : ¬ nn < 10 := by have := hNN.out; omega
            go_wp2_with fail
            go_roundg g
            case measure => omega
            case rel => exact ⟨k + 1, by omega, by go_num, hb2⟩
          | succ g2 =>
            have hn3 : nn < 10 := by have := hNN.out; omega
            have hwg : w.heap.size ≤ wr.heap.size := hb2.out.size
            obtain ⟨w3, rfl⟩ : ∃ w3 : World, w3 = wr := ⟨_, rfl⟩
            go_wp2_with fail
            refine (example_any w3).mono ?_
            rintro e w4 ⟨rfl, hrd, hB1, hb⟩
            have hb4 := below_on hb2 hb
            clear hrd hb hb2
            go_wp2_with fail
            refine (example_any w4).mono ?_
            rintro e w5 ⟨rfl, hrd, hB2, hb⟩
            have hb5 := below_on hb4 hb
            have hB1' := blk_on hB1 hb
            have hl1 := hB1.out.lt
            clear hrd hb hb4 hB1
            go_wp2_with fail
            refine (example_any w5).mono ?_
            rintro e w6 ⟨rfl, hrd, hB3, hb⟩
            have hb6 := below_on hb5 hb
            have hB1 := blk_on hB1' hb
            have hB2' := blk_on hB2 hb
            have hl2 := hB2.out.lt
            have hl3 := hB3.out.lt
            have hs5 := hb5.out.size
            have hs6 := hb6.out.size
            clear hrd hb hb5 hB1' hB2
            obtain ⟨g1, hg1⟩ : ∃ g1, w3.heap.size = g1 := ⟨_, rfl⟩
            obtain ⟨g2', hg2⟩ : ∃ g2', w4.heap.size = g2' := ⟨_, rfl⟩
            obtain ⟨g3, hg3⟩ : ∃ g3, w5.heap.size = g3 := ⟨_, rfl⟩
            rw [hg1] at hB1 hwg
            rw [hg1, hg2] at hl1
            rw [hg2] at hB2'
            rw [hg2, hg3] at hl2
            rw [hg3] at hB3 hs5 hl3
            rw [hg1, hg2, hg3]
            have hn12 : g1 ≠ g2' := by omega
            have hn13 : g1 ≠ g3 := by omega
            have hn23 : g2' ≠ g3 := by omega
            obtain ⟨u0, hu0⟩ := ex_cell0 hB1 hk6
            have hf0 := hB1.out.frozen (k * 4 + 0)
            simp only [Nat.add_zero] at hu0 hf0
            obtain ⟨l1, hL1, hC1⟩ := blk_fs0 hB1 hk6 nn (by omega)
            simp only [Nat.add_zero] at hC1
            have hB2 : Hid (Blk (w6.setCell ⟨g1, k * 4, none⟩ (.int .i64 nn)) g2' 37 exGC) := hB2'.out.far (Ne.symm hn12) _
            have hB3b : Hid (Blk (w6.setCell ⟨g1, k * 4, none⟩ (.int .i64 nn)) g3 37 exGC) := hB3.out.far (Ne.symm hn13) _
            obtain ⟨u1, hu1⟩ := ex_cell1 hB2 hk6
            have hf1 := hB2.out.frozen (k * 4 + 1)
            obtain ⟨l2, hL2, hC2⟩ := blk_fs1 hB2 hk6 nn
            have hB3c : Hid (Blk ((w6.setCell ⟨g1, k * 4, none⟩ (.int .i64 nn)).setCell ⟨g2', k * 4 + 1, none⟩ (.int .i64 nn)) g3 37 exGC) := hB3b.out.far (Ne.symm hn23) _
            obtain ⟨u2, hu2⟩ := ex_cell3 hB3c hk6
            have hf2 := hB3c.out.frozen (k * 4 + 3)
            obtain ⟨l3, hL3, hC3⟩ := blk_fs3 hB3c hk6 (IntKind.u64.wrap nn) ⟨u64_lo _, u64_hi _⟩
            obtain ⟨W8, hW8⟩ : ∃ W8, ((w6.setCell ⟨g1, k * 4, none⟩ (.int .i64 nn)).setCell ⟨g2', k * 4 + 1, none⟩ (.int .i64 nn)).setCell ⟨g3, k * 4 + 3, none⟩ (.int .u64 (IntKind.u64.wrap nn)) = W8 := ⟨_, rfl⟩
            have hE1 : Hid (EvtG W8 (some ⟨g1, 0, none⟩) 5) := by
              rw [← hW8, ← hL1.out.1]
              exact evt_blk hL1.out.2 ((hC1.out.far hn12 _).far hn13 _)
            have hE2 : Hid (EvtG W8 (some ⟨g2', 0, none⟩) 5) := by
              rw [← hW8, ← hL2.out.1]
              exact evt_blk hL2.out.2 (hC2.out.far hn23 _)
            have hE3 : Hid (EvtG W8 (some ⟨g3, 0, none⟩) 5) := by
              rw [← hW8, ← hL3.out.1]
              exact evt_blk hL3.out.2 hC3.out
            have hb8 : Hid (Below w.heap.size w W8) := by
              rw [← hW8]
              exact (((hb6.out.setCell (p := ⟨g1, k * 4, none⟩) (show w.heap.size ≤ g1 by omega) _).setCell (p := ⟨g2', k * 4 + 1, none⟩) (show w.heap.size ≤ g2' by omega) _).setCell (p := ⟨g3, k * 4 + 3, none⟩) (show w.heap.size ≤ g3 by omega) _)
            clear hB1 hB2 hB2' hB3 hB3b hB3c hC1 hC2 hC3 hL1 hL2 hL3 hb6 hl1 hl2 hl3 hs5 hs6 hwg hg1 hg2 hg3
            have hk4 : k ≤ 4 := by omega
            go_wp2_with fail
            try rw [hW8]
            clear hu0 hf0 hu1 hf1 hu2 hf2 hW8
            refine (gm_e (some ⟨g1, 0, none⟩) 5 5 nn W8 hE1 (by omega) (by omega)).mono ?_
            rintro e w9 ⟨rfl, hb⟩
            have hE2b := evt_on hE2 hb
            have hE3b := evt_on hE3 hb
            have hb9 := below_on hb8 hb
            clear hb hb8 hE1 hE2 hE3
            go_wp2_with fail
            refine (gm_e (some ⟨g2', 0, none⟩) 5 5 nn w9 hE2b (by omega) (by omega)).mono ?_
            rintro e w10 ⟨rfl, hb⟩
            have hE3 := evt_on hE3b hb
            have hb10 := below_on hb9 hb
            clear hb hb9 hE2b hE3b
            go_wp2_with fail
            refine (gm_e (some ⟨g3, 0, none⟩) 5 5 nn w10 hE3 (by omega) (by omega)).mono ?_
            rintro e w11 ⟨rfl, hb⟩
            have hb11 := below_on hb10 hb
            clear hb hb10 hE3
            go_wp2_with fail
            refine (example_any w11).mono ?_
            rintro e w12 ⟨rfl, hrd, hblk, hb⟩
            have hb12 := below_on hb11 hb
            have hev := exG_evt hrd
            clear hb hb11 hrd hblk
            go_wp2_with fail
            refine (go_e (some ⟨w11.heap.size, 0, none⟩) 5 5 nn _ w12 hev (by omega) (by omega) (by first | omega | exact u64_lo _) (by first | omega | exact u64_hi _)).mono ?_
            rintro e w13 ⟨rfl, hb⟩
            have hb13 := below_on hb12 hb
            clear hb hb12 hev
            go_wp2_with fail
            go_roundg g2
            case measure => omega
            case rel => exact ⟨m + 1, by omega, by have := hNN.out; exact congrArg (Value.int .i64) (by omega), hb13⟩
end Go.Proofs.Ythkppihfdlmhgaa
