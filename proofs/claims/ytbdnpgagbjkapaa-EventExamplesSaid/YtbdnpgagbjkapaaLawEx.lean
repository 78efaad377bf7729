/- The law EventExamples, walked (printed by gen_lawex.py). -/
import Derived.Test.YtbdnpgagbjkapaaLawMatches
import Derived.Test.YtbdnpgagbjkapaaLawLooks
import Derived.Deep.RegionHeld3
import Derived.Deep.DrawnRows
import Derived.Deep.CutBlock
namespace Go.Proofs.Ytbdnpgagbjkapaa
open Go Go.RowKit
set_option linter.unusedVariables false

/-- A slice of events, whichever they are. -/
def Evt (w : World) (A : Option Addr) (n : Nat) : Prop := ∃ l, Reads w w.heap.size 4 A n (evs l)
theorem evt_on {w w' : World} {A : Option Addr} {n : Nat} (h : Hid (Evt w A n)) (hb : Below w.heap.size w w') : Hid (Evt w' A n) := by
  obtain ⟨l, h⟩ := h.out
  exact ⟨l, (h.below hb).more hb.size⟩
theorem blk_on {w w' : World} {g : Nat} {T : TypeId} {cs : Array Value} (h : Hid (Blk w g T cs)) (hb : Below w.heap.size w w') : Hid (Blk w' g T cs) := h.out.below hb h.out.lt
theorem evt_nil (w : World) : Hid (Evt w none 0) := ⟨[], Reads.none_⟩
theorem evs_drop (l : List Ev) (k : Nat) : (evs l).drop (k * 4) = evs (l.drop k) := by
  induction k generalizing l with
  | zero => rfl
  | succ k ih =>
    cases l with
    | nil => simp [evs]
    | cons e l =>
      rw [List.drop_succ_cons, ← ih l]
      unfold evs
      rw [List.flatMap_cons, show (k + 1) * 4 = (evC e).length + k * 4 by rw [evC_len]; omega, List.drop_append]
      simp
theorem evt_cut {w : World} {g n k : Nat} (h : Hid (Evt w (some ⟨g, 0, none⟩) n)) (hk : k < n) : Hid (Evt w (some ⟨g, k * 4, none⟩) (n - k)) := by
  obtain ⟨l, h⟩ := h.out
  have h2 := h.cut (k := k) (cap := n) (by omega) (Nat.le_refl _)
  rw [if_neg (by omega), evs_drop, Option.map_some, Addr.add_lit, Nat.zero_add] at h2
  exact ⟨_, h2⟩
theorem evt_blk {w : World} {g : Nat} {l : List Ev} (h : Blk w g 58 (evs l).toArray) : Hid (Evt w (some ⟨g, 0, none⟩) l.length) := ⟨l, (reads_blk h (evs_len l)).out⟩
theorem evs_set0 : ∀ (l : List Ev) (i : Nat) (e : Ev) (x : Int), l[i]? = some e → evs (l.set i { e with step := x }) = (evs l).set (i * 4 + 0) (.int .i64 x)
  | [], i, e, x, h => by cases h
  | y :: l, 0, e, x, h => by
    obtain rfl := Option.some.inj h
    rfl
  | y :: l, i + 1, e, x, h => by
    have ih := evs_set0 l i e x h
    rw [List.set_cons_succ]
    unfold evs at ih ⊢
    rw [List.flatMap_cons, List.flatMap_cons, ih, List.set_append_right _ _ (by rw [evC_len]; omega), evC_len, show (i + 1) * 4 + 0 - 4 = i * 4 + 0 by omega]
theorem evt_set0 {w : World} {g i : Nat} (h : Hid (Blk w g 58 exC)) (hi : i < 6) (x : Int) : Hid (Evt (w.setCell ⟨g, i * 4 + 0, none⟩ (.int .i64 x)) (some ⟨g, 0, none⟩) 6) := by
  have h2 := h.out.set_ (i * 4 + 0) (.int .i64 x)
  have he : exE[i]? = some exE[i] := List.getElem?_eq_getElem (by show i < 6; omega)
  have hs := evs_set0 exE i _ x he
  have hC : exC.setIfInBounds (i * 4 + 0) (.int .i64 x) = (evs (exE.set i { exE[i] with step := x })).toArray := by
    rw [hs]
    unfold exC
    rw [List.setIfInBounds_toArray]
  rw [hC] at h2
  have h3 := evt_blk h2
  rw [List.length_set] at h3
  exact h3
theorem ex_cell0 {w : World} {g i : Nat} (h : Hid (Blk w g 58 exC)) (hi : i < 6) : ∃ u, w.cell? ⟨g, i * 4 + 0, none⟩ = some u := by
  have hl : i * 4 + 0 < exC.size := by show _ < 24; omega
  exact ⟨exC[i * 4 + 0], by rw [h.out.cell]; exact Array.getElem?_eq_getElem hl⟩
theorem evs_set1 : ∀ (l : List Ev) (i : Nat) (e : Ev) (x : Int), l[i]? = some e → evs (l.set i { e with thread := x }) = (evs l).set (i * 4 + 1) (.int .i64 x)
  | [], i, e, x, h => by cases h
  | y :: l, 0, e, x, h => by
    obtain rfl := Option.some.inj h
    rfl
  | y :: l, i + 1, e, x, h => by
    have ih := evs_set1 l i e x h
    rw [List.set_cons_succ]
    unfold evs at ih ⊢
    rw [List.flatMap_cons, List.flatMap_cons, ih, List.set_append_right _ _ (by rw [evC_len]; omega), evC_len, show (i + 1) * 4 + 1 - 4 = i * 4 + 1 by omega]
theorem evt_set1 {w : World} {g i : Nat} (h : Hid (Blk w g 58 exC)) (hi : i < 6) (x : Int) : Hid (Evt (w.setCell ⟨g, i * 4 + 1, none⟩ (.int .i64 x)) (some ⟨g, 0, none⟩) 6) := by
  have h2 := h.out.set_ (i * 4 + 1) (.int .i64 x)
  have he : exE[i]? = some exE[i] := List.getElem?_eq_getElem (by show i < 6; omega)
  have hs := evs_set1 exE i _ x he
  have hC : exC.setIfInBounds (i * 4 + 1) (.int .i64 x) = (evs (exE.set i { exE[i] with thread := x })).toArray := by
    rw [hs]
    unfold exC
    rw [List.setIfInBounds_toArray]
  rw [hC] at h2
  have h3 := evt_blk h2
  rw [List.length_set] at h3
  exact h3
theorem ex_cell1 {w : World} {g i : Nat} (h : Hid (Blk w g 58 exC)) (hi : i < 6) : ∃ u, w.cell? ⟨g, i * 4 + 1, none⟩ = some u := by
  have hl : i * 4 + 1 < exC.size := by show _ < 24; omega
  exact ⟨exC[i * 4 + 1], by rw [h.out.cell]; exact Array.getElem?_eq_getElem hl⟩
theorem evs_set2 : ∀ (l : List Ev) (i : Nat) (e : Ev) (x : Int), l[i]? = some e → evs (l.set i { e with kind := x }) = (evs l).set (i * 4 + 2) (.int .u8 x)
  | [], i, e, x, h => by cases h
  | y :: l, 0, e, x, h => by
    obtain rfl := Option.some.inj h
    rfl
  | y :: l, i + 1, e, x, h => by
    have ih := evs_set2 l i e x h
    rw [List.set_cons_succ]
    unfold evs at ih ⊢
    rw [List.flatMap_cons, List.flatMap_cons, ih, List.set_append_right _ _ (by rw [evC_len]; omega), evC_len, show (i + 1) * 4 + 2 - 4 = i * 4 + 2 by omega]
theorem evt_set2 {w : World} {g i : Nat} (h : Hid (Blk w g 58 exC)) (hi : i < 6) (x : Int) : Hid (Evt (w.setCell ⟨g, i * 4 + 2, none⟩ (.int .u8 x)) (some ⟨g, 0, none⟩) 6) := by
  have h2 := h.out.set_ (i * 4 + 2) (.int .u8 x)
  have he : exE[i]? = some exE[i] := List.getElem?_eq_getElem (by show i < 6; omega)
  have hs := evs_set2 exE i _ x he
  have hC : exC.setIfInBounds (i * 4 + 2) (.int .u8 x) = (evs (exE.set i { exE[i] with kind := x })).toArray := by
    rw [hs]
    unfold exC
    rw [List.setIfInBounds_toArray]
  rw [hC] at h2
  have h3 := evt_blk h2
  rw [List.length_set] at h3
  exact h3
theorem ex_cell2 {w : World} {g i : Nat} (h : Hid (Blk w g 58 exC)) (hi : i < 6) : ∃ u, w.cell? ⟨g, i * 4 + 2, none⟩ = some u := by
  have hl : i * 4 + 2 < exC.size := by show _ < 24; omega
  exact ⟨exC[i * 4 + 2], by rw [h.out.cell]; exact Array.getElem?_eq_getElem hl⟩
theorem evs_set3 : ∀ (l : List Ev) (i : Nat) (e : Ev) (x : Int), l[i]? = some e → evs (l.set i { e with val := x }) = (evs l).set (i * 4 + 3) (.int .u64 x)
  | [], i, e, x, h => by cases h
  | y :: l, 0, e, x, h => by
    obtain rfl := Option.some.inj h
    rfl
  | y :: l, i + 1, e, x, h => by
    have ih := evs_set3 l i e x h
    rw [List.set_cons_succ]
    unfold evs at ih ⊢
    rw [List.flatMap_cons, List.flatMap_cons, ih, List.set_append_right _ _ (by rw [evC_len]; omega), evC_len, show (i + 1) * 4 + 3 - 4 = i * 4 + 3 by omega]
theorem evt_set3 {w : World} {g i : Nat} (h : Hid (Blk w g 58 exC)) (hi : i < 6) (x : Int) : Hid (Evt (w.setCell ⟨g, i * 4 + 3, none⟩ (.int .u64 x)) (some ⟨g, 0, none⟩) 6) := by
  have h2 := h.out.set_ (i * 4 + 3) (.int .u64 x)
  have he : exE[i]? = some exE[i] := List.getElem?_eq_getElem (by show i < 6; omega)
  have hs := evs_set3 exE i _ x he
  have hC : exC.setIfInBounds (i * 4 + 3) (.int .u64 x) = (evs (exE.set i { exE[i] with val := x })).toArray := by
    rw [hs]
    unfold exC
    rw [List.setIfInBounds_toArray]
  rw [hC] at h2
  have h3 := evt_blk h2
  rw [List.length_set] at h3
  exact h3
theorem ex_cell3 {w : World} {g i : Nat} (h : Hid (Blk w g 58 exC)) (hi : i < 6) : ∃ u, w.cell? ⟨g, i * 4 + 3, none⟩ = some u := by
  have hl : i * 4 + 3 < exC.size := by show _ < 24; omega
  exact ⟨exC[i * 4 + 3], by rw [h.out.cell]; exact Array.getElem?_eq_getElem hl⟩
theorem matches_e (A : Option Addr) (n c : Nat) (w : World) (h : Hid (Evt w A n)) (hnc : n ≤ c) (hcap : c ≤ 9223372036854775807) :
    Calls Try.prog 3 #[.slice A n c] w fun e w' => e = .returned (.bool true) ∧ Below w.heap.size w w' := by
  obtain ⟨l, h⟩ := h.out
  exact matches_core A n c l w h hnc hcap
theorem looks_e (tt t : Int) (A : Option Addr) (n c : Nat) (w : World) (h : Hid (Evt w A n)) (hnc : n ≤ c) (hcap : c ≤ 9223372036854775807) :
    Calls Try.prog 6 #[.int .i64 tt, .int .i64 t, .slice A n c] w fun e w' => e = .returned (.bool true) ∧ Below w.heap.size w w' := by
  obtain ⟨l, h⟩ := h.out
  exact looks_core tt t A n c l w h hnc hcap
def valC : Array Value := #[.int .u64 0, .int .u64 1, .int .u64 63, .int .u64 64, .int .u64 9223372036854775808, .int .u64 18446744073709551615]
def thrC : Array Value := #[.int .i64 (-9223372036854775808), .int .i64 (-1), .int .i64 0, .int .i64 63, .int .i64 64, .int .i64 9223372036854775807]
theorem val_at {w : World} {g i : Nat} {T : TypeId} (h : Hid (Blk w g T valC)) (hi : i < 6) : ∃ v, w.cell? ⟨g, i, none⟩ = some (.int .u64 v) := by
  have : i = 0 ∨ i = 1 ∨ i = 2 ∨ i = 3 ∨ i = 4 ∨ i = 5 := by omega
  rcases this with rfl | rfl | rfl | rfl | rfl | rfl <;> exact ⟨_, h.out.cell _⟩
theorem thr_at {w : World} {g i : Nat} {T : TypeId} (h : Hid (Blk w g T thrC)) (hi : i < 6) : ∃ v, w.cell? ⟨g, i, none⟩ = some (.int .i64 v) := by
  have : i = 0 ∨ i = 1 ∨ i = 2 ∨ i = 3 ∨ i = 4 ∨ i = 5 := by omega
  rcases this with rfl | rfl | rfl | rfl | rfl | rfl <;> exact ⟨_, h.out.cell _⟩
theorem bel_set {w w' : World} {g : Nat} (h : Hid (Below w.heap.size w w')) (hg : w.heap.size ≤ g) (k : Nat) (u : Value) : Hid (Below w.heap.size w (w'.setCell ⟨g, k, none⟩ u)) := h.out.setCell hg u

theorem wpList_bs {P : Program} {ops : Array Oper} {rest : List Oper} {o : Oper} {a : Act} {w : World} {Q : Exit → Act → World → Prop} (hg : o.guard = none) (t : TypeId) (n : Nat) (ps : Array (Nat × Operand)) (hop : o.op = Op.buildSlice t n ps) (v : Value) (w' : World)
    (hrun : (Instr.buildSlice t n (ps.map fun p => (p.1, a.eval p.2))).run P w = .ok v w') (hK : wpList P ops Q rest (a.put o.dst v) w') : wpList P ops Q (o :: rest) a w := by
  refine wpList_plain hg fun K hK' => ?_
  unfold Oper.wp
  simp [execOp, hop, hrun, Result.andThen]
  exact hK' _ _ hK

set_option maxRecDepth 100000 in
set_option maxHeartbeats 16000000 in
theorem examples_law (w : World) :
    Calls Try.prog 7 #[] w fun e w' => e = .returned (.bool true) ∧ Below w.heap.size w w' := by
  go_enter Try.func7, Try.ntmps7
  go_wp2_with fail
  go_loopg [1] 6 (fun g i wr => ∃ k : Nat, k + g = 6 ∧ i = .int .i64 k ∧ Hid (Below w.heap.size w wr))
  case atStart => exact ⟨0, by omega, rfl, Below.refl _ _⟩
  case round =>
    obtain ⟨k, hk, rfl, hbel⟩ := hrel
    have hk7 : k ≤ 6 := by omega
    go_wp2_with fail
    refine (example_any _).mono ?_
    rintro e w1 ⟨rfl, hrd, hblk, hb⟩
    have hb1 := below_on hbel hb
    clear hrd hblk hb hbel
    cases gk with
    | zero =>
      as_aux_lemma =>
        obtain rfl : k = 6 := by omega
        go_upto_region 21 with fail
        go_wp2_with (first
          | (refine wpList_bs rfl 61 6 _ rfl (.slice (some ⟨w1.heap.size, 0, none⟩) 6 6) (w1.alloc (.cells valC 39)) (by kernel_rfl) ?_)
          | (refine wpList_bs rfl 62 6 _ rfl (.slice (some ⟨(w1.alloc (.cells valC 39)).heap.size, 0, none⟩) 6 6) ((w1.alloc (.cells valC 39)).alloc (.cells thrC 3)) (by kernel_rfl) ?_))

        have hbv := (Below.refl _ w1).alloc (Nat.le_refl _) (.cells valC 39)
        have hbt := (Below.refl _ (w1.alloc (.cells valC 39))).alloc (Nat.le_refl _) (.cells thrC 3)
        have hV : Hid (Blk ((w1.alloc (.cells valC 39)).alloc (.cells thrC 3)) w1.heap.size 39 valC) := (Blk.new w1 _ _).alloc _
        have hT : Hid (Blk ((w1.alloc (.cells valC 39)).alloc (.cells thrC 3)) (w1.heap.size + 1) 3 thrC) := Blk.new1 w1 _ _ _
        have hb2 : Hid (Below w.heap.size w ((w1.alloc (.cells valC 39)).alloc (.cells thrC 3))) := hb1.out.trans ((hbv.trans (hbt.mono hbv.size)).mono hb1.out.size)
        clear hb1 hbv hbt
        go_loopg [7] 6 (fun g v wr => ∃ z : Nat, z + g = 6 ∧ v = .int .i64 z ∧ Hid (Blk wr (w1.heap.size) 39 valC) ∧ Hid (Blk wr (w1.heap.size + 1) 3 thrC) ∧ Hid (Below w.heap.size w wr))
        case atStart => exact ⟨0, by omega, rfl, hV.out, hT.out, hb2.out⟩
        case round =>
          clear hV hT hb2
          obtain ⟨i, hi, rfl, hV, hT, hb3⟩ := hrel
          cases gk with
          | zero =>
            obtain rfl : i = 6 := by omega
            go_wp2_with fail
            obtain ⟨w9, rfl⟩ : ∃ w9 : World, w9 = wr := ⟨_, rfl⟩
            clear hV hT
            refine (matches_e none 0 0 w9 (evt_nil w9) (Nat.le_refl _) (by decide)).mono ?_
            rintro e w10 ⟨rfl, hb⟩
            have hb10 := below_on hb3 hb
            clear hb hb3
            go_wp2_with fail
            refine (looks_e 0 (-1) none 0 0 w10 (evt_nil w10) (Nat.le_refl _) (by decide)).mono ?_
            rintro e w11 ⟨rfl, hb⟩
            have hb11 := below_on hb10 hb
            clear hb hb10
            go_wp2_with fail
            refine (example_any w11).mono ?_
            rintro e w12 ⟨rfl, hrd, hblk, hb⟩
            have hb12 := below_on hb11 hb
            have hev12 : Hid (Evt w12 (some ⟨w11.heap.size, 0, none⟩) 6) := ⟨exE, hrd.out⟩
            clear hb hb11 hrd hblk
            go_wp2_with fail
            refine (looks_e 0 9223372036854775807 (some ⟨w11.heap.size, 0, none⟩) 6 6 w12 hev12 (Nat.le_refl _) (by decide)).mono ?_
            rintro e w13 ⟨rfl, hb⟩
            have hb13 := below_on hb12 hb
            clear hb hb12 hev12
            go_wp2_with fail
            refine (awake_any w13).mono ?_
            rintro e w14 ⟨rfl, hb⟩
            have hb14 := below_on hb13 hb
            clear hb hb13
            go_wp2_with fail
            go_ret
            exact ⟨rfl, hb14.out⟩
          | succ g =>
            have i6 : i < 6 := by omega
            have i0 : (0 : Int) ≤ (i : Int) := by omega
            have i1 : (i : Int) < 6 := by omega
            go_wp2_with fail
            go_loopg [8] 6 (fun g v wr => ∃ z : Nat, z + g = 6 ∧ v = .int .i64 z ∧ Hid (Blk wr (w1.heap.size) 39 valC) ∧ Hid (Blk wr (w1.heap.size + 1) 3 thrC) ∧ Hid (Below w.heap.size w wr))
            case atStart => exact ⟨0, by omega, rfl, hV.out, hT.out, hb3.out⟩
            case round =>
              clear hV hT hb3
              obtain ⟨k, hk, rfl, hV, hT, hb3⟩ := hrel
              cases gk with
              | zero =>
                obtain rfl : k = 6 := by omega
                go_wp2_with fail
                go_roundg g
                case measure => omega
                case rel => exact ⟨i + 1, by omega, by go_num, hV, hT, hb3⟩
              | succ g2 =>
                have k6 : k < 6 := by omega
                have k0 : (0 : Int) ≤ (k : Int) := by omega
                have k1 : (k : Int) < 6 := by omega
                go_wp2_with fail
                go_loopg [9] 6 (fun g v wr => ∃ z : Nat, z + g = 6 ∧ v = .int .u8 z ∧ Hid (Blk wr (w1.heap.size) 39 valC) ∧ Hid (Blk wr (w1.heap.size + 1) 3 thrC) ∧ Hid (Below w.heap.size w wr))
                case atStart => exact ⟨0, by omega, rfl, hV.out, hT.out, hb3.out⟩
                case round =>
                  clear hV hT hb3
                  obtain ⟨q, hq, rfl, hV, hT, hb3⟩ := hrel
                  cases gk with
                  | zero =>
                    obtain rfl : q = 6 := by omega
                    go_wp2_with fail
                    go_roundg g2
                    case measure => omega
                    case rel => exact ⟨k + 1, by omega, by go_num, hV, hT, hb3⟩
                  | succ g3 =>
                    have q6 : q < 6 := by omega
                    have q0 : (0 : Int) ≤ (q : Int) := by omega
                    have q1 : (q : Int) < 6 := by omega
                    obtain ⟨wq, rfl⟩ : ∃ wq : World, wq = wr := ⟨_, rfl⟩
                    obtain ⟨vv, hvv⟩ := val_at hV i6
                    obtain ⟨tv, htv⟩ := thr_at hT k6
                    go_wp2_with fail
                    go_still_tail 10, (by kernel_rfl)
                    change wpList _ _ _ _ _ wq.drew
                    go_wp2_with fail
                    obtain ⟨WH, hWH⟩ : ∃ WH, (wq.alloc (.cells #[.int .i64 3, .int .i64 tv, .int .u8 q, .int .u64 vv] 58)).drew = WH := ⟨_, rfl⟩
                    have hal : Below wq.heap.size wq WH.drew := by rw [← hWH]; exact (((Below.refl _ wq).alloc (Nat.le_refl _) _).drew).drew
                    have hev : Hid (Evt WH.drew (some ⟨wq.heap.size, 0, none⟩) 1) := by
                      rw [← hWH]
                      exact evt_blk (l := [⟨3, tv, q, vv⟩]) (Blk.new wq 58 #[.int .i64 3, .int .i64 tv, .int .u8 q, .int .u64 vv])
                    rw [hWH]
                    have hb4 := below_on hb3 hal
                    have hTl := hT.out.lt
                    have hV4 : Hid (Blk WH.drew (w1.heap.size) 39 valC) := hV.out.below hal hV.out.lt
                    have hT4 : Hid (Blk WH.drew (w1.heap.size + 1) 3 thrC) := hT.out.below hal hTl
                    have ct4 := (hal.cell (p := ⟨w1.heap.size + 1, k, none⟩) hTl).trans htv
                    have ct3 : WH.cell? ⟨w1.heap.size + 1, k, none⟩ = some (.int .i64 tv) := ct4
                    have l4 : w1.heap.size + 1 < WH.drew.heap.size := hT4.out.lt
                    have h11 : 1 ≤ 1 := Nat.le_refl _
                    have h11' : 1 ≤ 9223372036854775807 := by decide
                    have h66 : 6 ≤ 6 := Nat.le_refl _
                    have h66' : 6 ≤ 9223372036854775807 := by decide
                    clear hWH hal hb3 hV hT hvv htv hTl
                    go_region_held3 (fun w' => w'.cell? ⟨w1.heap.size + 1, k, none⟩ = some (.int .i64 tv))
                      (first
                        | go_keep
                        | assumption)
                      ((first
                        | (go_at_call 3; (with_reducible refine (matches_e (some ⟨wq.heap.size, 0, none⟩) 1 1 _ hev h11 h11').mono ?_); rintro e w5 ⟨rfl, hq1⟩; have hev5 := evt_on hev hq1; have ct5 := (hq1.cell (p := ⟨w1.heap.size + 1, k, none⟩) l4).trans ct4; have l5 := Nat.lt_of_lt_of_le l4 hq1.size)
                        | (go_at_call 6; (with_reducible refine (looks_e tv 3 (some ⟨wq.heap.size, 0, none⟩) 1 1 _ hev5 h11 h11').mono ?_); rintro e w6 ⟨rfl, hq2⟩; have ct6 := (hq2.cell (p := ⟨w1.heap.size + 1, k, none⟩) l5).trans ct5; have l6 := Nat.lt_of_lt_of_le l5 hq2.size)
                        | (go_at_call 28; (with_reducible refine (example_any _).mono ?_); rintro e w7 ⟨rfl, hrd, hblk, hq3⟩; have hev7 : Hid (Evt w7 _ 6) := ⟨exE, hrd.out⟩; have ct7 := (hq3.cell (p := ⟨w1.heap.size + 1, k, none⟩) l6).trans ct6; have l7 := Nat.lt_of_lt_of_le l6 hq3.size)
                        | (go_at_call 6; (with_reducible refine (looks_e tv tv (some ⟨w6.heap.size, 0, none⟩) 6 6 _ hev7 h66 h66').mono ?_); rintro e w8 ⟨rfl, hq4⟩; have ct8 := (hq4.cell (p := ⟨w1.heap.size + 1, k, none⟩) l7).trans ct7)))
                    have hb8 := below_on (below_on (below_on (below_on hb4 hq1) hq2) hq3) hq4
                    have hV8 : Hid (Blk w8 (w1.heap.size) 39 valC) := blk_on (blk_on (blk_on (blk_on hV4 hq1) hq2) hq3) hq4
                    have hT8 : Hid (Blk w8 (w1.heap.size + 1) 3 thrC) := blk_on (blk_on (blk_on (blk_on hT4 hq1) hq2) hq3) hq4
                    clear hq1 hq2 hq3 hq4 hev hev5 hev7 ct3 ct4 ct5 ct6 ct7 ct8 hblk hrd hb4 hV4 hT4
                    go_wp2_with fail
                    go_roundg g3
                    case measure => omega
                    case rel => exact ⟨q + 1, by omega, by go_num, hV8, hT8, hb8⟩
    | succ g =>
      as_aux_lemma =>
        have hk6 : k < 6 := by omega
        have hk6' : (k : Int) < 6 := by omega
        have k0 : (0 : Int) ≤ (k : Int) := by omega
        go_wp2_with fail
        go_loopg [2] 12 (fun g v wr => ∃ m : Nat, m + g = 12 ∧ v = .int .i64 ((m : Int) - 2) ∧ Hid (Below w.heap.size w wr))
        case atStart => exact ⟨0, by omega, rfl, hb1.out⟩
        case round =>
          clear hb1
          obtain ⟨m, hm, rfl, hb2⟩ := hrel
          obtain ⟨nn, hnn⟩ : ∃ nn : Int, (m : Int) - 2 = nn := ⟨_, rfl⟩
          have hn1 : -2 ≤ nn := by omega
          have hn2 : nn ≤ 10 := by omega
          have hNN := Lib.hid hnn
          rw [hnn]
          clear hnn
          cases gk with
          | zero =>
            have hn3 : ¬ nn < 10 := by have := hNN.out; omega
            go_wp2_with fail
            go_roundg g
            case measure => omega
            case rel => exact ⟨k + 1, by omega, by go_num, hb2⟩
          | succ g2 =>
            have hn3 : nn < 10 := by have := hNN.out; omega
            go_wp2_with fail
            go_loopg [3] 4 (fun g v wr => ∃ q : Nat, q + g = 4 ∧ v = .int .i64 q ∧ Hid (Below w.heap.size w wr))
            case atStart => exact ⟨0, by omega, rfl, hb2.out⟩
            case round =>
              clear hb2
              obtain ⟨q, hq, rfl, hb3⟩ := hrel
              cases gk with
              | zero =>
                obtain rfl : q = 4 := by omega
                go_wp2_with fail
                go_roundg g2
                case measure => omega
                case rel => exact ⟨m + 1, by omega, by have := hNN.out; exact congrArg (Value.int .i64) (by omega), hb3⟩
              | succ g3 =>
                obtain ⟨w3, rfl⟩ : ∃ w3 : World, w3 = wr := ⟨_, rfl⟩
                have hwg : w.heap.size ≤ w3.heap.size := hb3.out.size
                have hq4 : (q : Int) < 4 := by omega
                go_wp2_with fail
                refine (example_any w3).mono ?_
                rintro e w4 ⟨rfl, hrd, hblk, hb⟩
                have hb4 := below_on hb3 hb
                clear hrd hb hb3
                have hqc : q = 0 ∨ q = 1 ∨ q = 2 ∨ q = 3 := by omega
                clear hq4
                rcases hqc with rfl | rfl | rfl | rfl
                · as_aux_lemma =>
                    have hev := evt_set0 hblk hk6
                    obtain ⟨u0, hu0⟩ := ex_cell0 hblk hk6
                    have hf0 := hblk.out.frozen (k * 4 + 0)
                    simp only [Nat.add_zero] at hev hu0 hf0
                    have hgl := hblk.out.lt
                    have hz4 := Lib.hid hb4.out.size
                    clear hblk
                    go_wp2_with fail
                    refine (matches_e (some ⟨w3.heap.size, 0, none⟩) 6 6 _ (hev _) (by omega) (by omega)).mono ?_
                    rintro e w5 ⟨rfl, hb⟩
                    have hev5 := evt_on (hev _) hb
                    have hb5 := below_on (bel_set hb4 hwg (k * 4 + 0) _) hb
                    clear hb hb4 hev hu0 hf0 hgl
                    go_wp2_with fail
                    refine (looks_e _ nn (some ⟨w3.heap.size, 0, none⟩) 6 6 w5 hev5 (by omega) (by omega)).mono ?_
                    rintro e w6 ⟨rfl, hb⟩
                    have hev6 := evt_cut (evt_on hev5 hb) hk6
                    have hb6 := below_on hb5 hb
                    clear hb hb5 hev5
                    go_wp2_with fail
                    refine (matches_e (some ⟨w3.heap.size, k * 4, none⟩) (6 - k) (6 - k) w6 hev6 (by omega) (by omega)).mono ?_
                    rintro e w7 ⟨rfl, hb⟩
                    have hb7 := below_on hb6 hb
                    clear hb hb6 hev6
                    go_wp2_with fail
                    go_roundg g3
                    case measure => omega
                    case rel => exact ⟨0 + 1, by omega, by go_num, hb7⟩
                · as_aux_lemma =>
                    have hev := evt_set1 hblk hk6
                    obtain ⟨u0, hu0⟩ := ex_cell1 hblk hk6
                    have hf0 := hblk.out.frozen (k * 4 + 1)
                    skip
                    have hgl := hblk.out.lt
                    have hz4 := Lib.hid hb4.out.size
                    clear hblk
                    go_wp2_with fail
                    refine (matches_e (some ⟨w3.heap.size, 0, none⟩) 6 6 _ (hev _) (by omega) (by omega)).mono ?_
                    rintro e w5 ⟨rfl, hb⟩
                    have hev5 := evt_on (hev _) hb
                    have hb5 := below_on (bel_set hb4 hwg (k * 4 + 1) _) hb
                    clear hb hb4 hev hu0 hf0 hgl
                    go_wp2_with fail
                    refine (looks_e _ nn (some ⟨w3.heap.size, 0, none⟩) 6 6 w5 hev5 (by omega) (by omega)).mono ?_
                    rintro e w6 ⟨rfl, hb⟩
                    have hev6 := evt_cut (evt_on hev5 hb) hk6
                    have hb6 := below_on hb5 hb
                    clear hb hb5 hev5
                    go_wp2_with fail
                    refine (matches_e (some ⟨w3.heap.size, k * 4, none⟩) (6 - k) (6 - k) w6 hev6 (by omega) (by omega)).mono ?_
                    rintro e w7 ⟨rfl, hb⟩
                    have hb7 := below_on hb6 hb
                    clear hb hb6 hev6
                    go_wp2_with fail
                    go_roundg g3
                    case measure => omega
                    case rel => exact ⟨1 + 1, by omega, by go_num, hb7⟩
                · as_aux_lemma =>
                    have hev := evt_set2 hblk hk6
                    obtain ⟨u0, hu0⟩ := ex_cell2 hblk hk6
                    have hf0 := hblk.out.frozen (k * 4 + 2)
                    skip
                    have hgl := hblk.out.lt
                    have hz4 := Lib.hid hb4.out.size
                    clear hblk
                    go_wp2_with fail
                    refine (matches_e (some ⟨w3.heap.size, 0, none⟩) 6 6 _ (hev _) (by omega) (by omega)).mono ?_
                    rintro e w5 ⟨rfl, hb⟩
                    have hev5 := evt_on (hev _) hb
                    have hb5 := below_on (bel_set hb4 hwg (k * 4 + 2) _) hb
                    clear hb hb4 hev hu0 hf0 hgl
                    go_wp2_with fail
                    refine (looks_e _ nn (some ⟨w3.heap.size, 0, none⟩) 6 6 w5 hev5 (by omega) (by omega)).mono ?_
                    rintro e w6 ⟨rfl, hb⟩
                    have hev6 := evt_cut (evt_on hev5 hb) hk6
                    have hb6 := below_on hb5 hb
                    clear hb hb5 hev5
                    go_wp2_with fail
                    refine (matches_e (some ⟨w3.heap.size, k * 4, none⟩) (6 - k) (6 - k) w6 hev6 (by omega) (by omega)).mono ?_
                    rintro e w7 ⟨rfl, hb⟩
                    have hb7 := below_on hb6 hb
                    clear hb hb6 hev6
                    go_wp2_with fail
                    go_roundg g3
                    case measure => omega
                    case rel => exact ⟨2 + 1, by omega, by go_num, hb7⟩
                · as_aux_lemma =>
                    have hev := evt_set3 hblk hk6
                    obtain ⟨u0, hu0⟩ := ex_cell3 hblk hk6
                    have hf0 := hblk.out.frozen (k * 4 + 3)
                    skip
                    have hgl := hblk.out.lt
                    have hz4 := Lib.hid hb4.out.size
                    clear hblk
                    go_wp2_with fail
                    refine (matches_e (some ⟨w3.heap.size, 0, none⟩) 6 6 _ (hev _) (by omega) (by omega)).mono ?_
                    rintro e w5 ⟨rfl, hb⟩
                    have hev5 := evt_on (hev _) hb
                    have hb5 := below_on (bel_set hb4 hwg (k * 4 + 3) _) hb
                    clear hb hb4 hev hu0 hf0 hgl
                    go_wp2_with fail
                    refine (looks_e _ nn (some ⟨w3.heap.size, 0, none⟩) 6 6 w5 hev5 (by omega) (by omega)).mono ?_
                    rintro e w6 ⟨rfl, hb⟩
                    have hev6 := evt_cut (evt_on hev5 hb) hk6
                    have hb6 := below_on hb5 hb
                    clear hb hb5 hev5
                    go_wp2_with fail
                    refine (matches_e (some ⟨w3.heap.size, k * 4, none⟩) (6 - k) (6 - k) w6 hev6 (by omega) (by omega)).mono ?_
                    rintro e w7 ⟨rfl, hb⟩
                    have hb7 := below_on hb6 hb
                    clear hb hb6 hev6
                    go_wp2_with fail
                    go_roundg g3
                    case measure => omega
                    case rel => exact ⟨3 + 1, by omega, by go_num, hb7⟩
end Go.Proofs.Ytbdnpgagbjkapaa
