/- grace.Check walked (printed by gen_gcheck.py). -/
import Derived.Test.YthkppihfdlmhgaaOver
import Derived.Test.YthkppihfdlmhgaaMapR
namespace Go.Proofs.Ythkppihfdlmhgaa
open Go Go.RowKit
set_option linter.unusedVariables false

theorem uMapB : Try.prog.underlying 61 = some (.map 3 63) := by kernel_rfl
theorem zBegun (w : World) : (zeroValue 63).run Try.prog w = .ok (.agg #[.int .u64 0, .int .i64 0]) w := by kernel_rfl
theorem bgField (a b : Int) (w : World) : (Instr.field 63 (.agg #[.int .u64 a, .int .i64 b]) 1).run Try.prog w = .ok (.int .i64 b) w := by kernel_rfl
/-- A value and a step. -/
def bgV (p : Int × Int) : Value := .agg #[.int .u64 p.1, .int .i64 p.2]
def opV (l : List Ev) : Int → Option Value := fun t => (opS l t).map bgV
def waV (l : List Ev) : Int → Option Value := fun t => (waS l t).map bgV
theorem opS_val {l : List Ev} {t : Int} {p : Int × Int} (h : opS l t = some p) : ∃ e ∈ l, p = (e.val, e.step) := by
  suffices g : ∀ (l : List Ev) (s : Int → Option (Int × Int)), l.foldl opU s t = some p → s t = some p ∨ ∃ e ∈ l, p = (e.val, e.step) by
    rcases g l _ h with h | h
    · cases h
    · exact h
  intro l
  induction l with
  | nil => intro s h; exact .inl h
  | cons e l ih =>
    intro s h
    rcases ih _ h with h | ⟨x, hx, ht⟩
    · unfold opU at h
      by_cases he : t = e.thread
      · rw [if_pos he] at h
        by_cases h1 : e.kind = 1
        · rw [if_pos h1] at h
          exact .inr ⟨e, by simp, (Option.some.inj h).symm⟩
        · rw [if_neg h1] at h
          by_cases h2 : e.kind = 2
          · rw [if_pos h2] at h; cases h
          · rw [if_neg h2] at h; exact .inl h
      · rw [if_neg he] at h; exact .inl h
    · exact .inr ⟨x, by simp [hx], ht⟩
theorem look_as {w : World} {g : Nat} {kv : List (Int × Value × Nat)} {clk : Nat} {L : List Ev} (h : IsMapOf w g .i64 kv clk) (ha : MapAs kv clk (waV L)) (t : Int) :
    (Instr.lookup 61 (.map (some g)) (.int .i64 t) false).run Try.prog w = .ok (.agg #[.int .u64 ((waS L t).getD (0, 0)).1, .int .i64 (fromW L t)]) w := by
  rw [run_look uMapB uInt h t (.agg #[.int .u64 0, .int .i64 0]) (zBegun w) false, ha.look t]
  unfold waV fromW
  cases waS L t <;> rfl
/-- Where all entries have come and none came too early, no thread's section holds the event back. -/
theorem all_late {kv : List (Int × Value × Nat)} {clk : Nat} {L : List Ev} {x : Ev} {seen : Array Nat} (ha : MapAs kv clk (opV L)) (h1 : ∀ p ∈ kv, p.2.2 ∈ seen) (h2 : ∀ p ∈ kv, p.2.2 ∈ seen → lateB L x p.1 = false) : ∀ t, lateB L x t = false := by
  intro t
  cases ho : opS L t with
  | none => unfold lateB; rw [ho]
  | some p =>
    have hl := ha.look t
    unfold opV at hl
    rw [ho] at hl
    cases hf : findL t kv 0 with
    | none => rw [hf] at hl; cases hl
    | some r =>
      obtain ⟨_, b, hb⟩ := findL_in (j := r.1) (u := r.2) hf
      have hm := List.mem_of_getElem? hb
      exact h2 _ hm (h1 _ hm)
theorem born_push {kv : List (Int × Value × Nat)} {clk : Nat} {s : Int → Option Value} {L : List Ev} {x : Ev} {seen : Array Nat} {t : Int} {v : Value} {b : Nat} (ha : MapAs kv clk s) (hp : (t, v, b) ∈ kv) (h : ∀ p ∈ kv, p.2.2 ∈ seen → lateB L x p.1 = false) (ht : lateB L x t = false) :
    ∀ p ∈ kv, p.2.2 ∈ seen.push b → lateB L x p.1 = false := by
  intro p hpm hs
  rcases Array.mem_push.1 hs with hs | hs
  · exact h p hpm hs
  · have : p = (t, v, b) := by
      obtain ⟨i, hi⟩ := List.getElem?_of_mem hpm
      obtain ⟨j, hj⟩ := List.getElem?_of_mem hp
      have hn := ha.born
      have e1 : (kv.map (·.2.2))[i]? = some p.2.2 := by rw [List.getElem?_map, hi]; rfl
      have e2 : (kv.map (·.2.2))[j]? = some b := by rw [List.getElem?_map, hj]; rfl
      have hij : i = j := (List.getElem?_inj (List.getElem?_eq_some_iff.1 e1).1 hn).1 (by rw [e1, e2, hs])
      subst hij
      rw [hi] at hj
      exact Option.some.inj hj
    rw [this]
    exact ht

/-- What Check returns, as an ending. -/
def GkEnd (l : List Ev) (w : World) (e : Ending) (w' : World) : Prop := ∃ a er, e = .returned (.tuple #[.int .i64 a, .int .i64 er]) ∧ GkIs l a er ∧ Below w.heap.size w w'
theorem gk_res {l : List Ev} {w : World} {e : Ending} {w' : World} (h : GkEnd l w e w') : CkRes (gAt l) (gEr l) w e w' := by
  obtain ⟨a, er, rfl, hc, hb⟩ := h
  obtain ⟨rfl, rfl⟩ := gk_one hc (gk_at l)
  exact ⟨rfl, hb⟩

set_option maxRecDepth 100000 in
set_option maxHeartbeats 8000000 in
theorem gcheck_end (l : List Ev) (A : Option Addr) (n c : Nat) (w : World) (hr : Hid (Reads w w.heap.size 4 A n (evs l))) (hn : n ≤ 65536) (hw : Hid (WfE l)) :
    Calls Try.prog 16 #[.slice A n c] w (GkEnd l w) := by
  have hl := Lib.hid (evs_n hr.out)
  have hmm := @run_makeMap Try.prog
  have hck := check_at l A n c w hr hn
  rcases errL_or l with ⟨hf, he⟩ | ⟨hf, he⟩
  · rw [he] at hck
    have hF := Lib.hid hf
    clear hf he
    go_enter Try.func16, Try.ntmps16
    go_wp2_with fail
    go_step3
    go_wp2_with fail
    refine hck.mono ?_
    rintro e w1 ⟨rfl, hb⟩
    have b1 := Lib.hid hb
    clear hb hck
    generalize atL l = at0
    go_wp2_with fail
    go_step3
    go_wp2_with fail
    have hsz1 := Lib.hid b1.out.size
    have mO : Hid (IsMapOf ((w1.alloc (.map #[] 0)).alloc (.map #[] 0)) w1.heap.size .i64 [] 0) := (Below.heap_alloc _ _ _ (by simp)).trans (heap_alloc_new w1 _)
    have mW : Hid (IsMapOf ((w1.alloc (.map #[] 0)).alloc (.map #[] 0)) (w1.heap.size + 1) .i64 [] 0) := by
      have := heap_alloc_new (w1.alloc (.map #[] 0)) (.map #[] 0)
      rw [World.size_alloc] at this
      exact this
    have b2 : Hid (Below w.heap.size w ((w1.alloc (.map #[] 0)).alloc (.map #[] 0))) := (b1.out.alloc hsz1.out _).alloc (by have := hsz1.out; simp; omega) _
    obtain ⟨G, hG⟩ : ∃ G, G = w1.heap.size := ⟨_, rfl⟩
    have hGw : Hid (w.heap.size ≤ G) := by unfold Hid; rw [hG]; exact hsz1.out
    rw [← hG] at mO mW ⊢
    clear hG hsz1 b1
    go_loopg [8, 26] n (fun g v i wr => ∃ (k : Nat) (kvO : List (Int × Value × Nat)) (cO : Nat) (kvW : List (Int × Value × Nat)) (cW : Nat), v = .int .i64 (-1) ∧ k + g = n ∧ i = .int .i64 k ∧ Hid (LateTo l k) ∧ Hid (IsMapOf wr G .i64 kvO cO) ∧ Hid (MapAs kvO cO (opV (l.take k))) ∧ Hid (IsMapOf wr (G + 1) .i64 kvW cW) ∧ Hid (MapAs kvW cW (waV (l.take k))) ∧ Hid (Below w.heap.size w wr))
    case atStart => exact ⟨0, [], 0, [], 0, rfl, by omega, rfl, late_zero l, mO, mapAs_nil 0, mW, mapAs_nil 0, b2⟩
    case round =>
      clear mO mW b2
      obtain ⟨k, kvO, cO, kvW, cW, rfl, hk, rfl, hL, hO, aO, hW, aW, hbel⟩ := hrel
      cases gk with
      | zero =>
        obtain rfl : k = n := by omega
        as_aux_lemma =>
          have hL2 : Hid (LateTo l l.length) := by rw [hl.out]; exact hL
          clear hO aO hW aW hL
          go_wp2_with fail
          try rw [Exit.noGoto_ret]
          go_ret2
          exact ⟨0, 0, rfl, .inr (.inr ⟨hF.out, hL2.out, rfl, rfl⟩), hbel.out⟩
      | succ g =>
        obtain ⟨b, o, rfl, hbB⟩ := reads_head hr.out (by omega) (by decide)
        have hsz := Lib.hid hbel.out.size
        have hbw : b < wr.heap.size := by have := hsz.out; omega
        obtain ⟨⟨es, et, ek, ev⟩, he0, c0, c1, c2, c3⟩ := ev_at (hr.out.below hbel.out) (show k < n by omega)
        have hkk := (good_parts (hF.out k _ (List.getElem?_eq_some_iff.1 he0).1 he0)).2.2.2
        have hvv := Lib.hid (hw.out _ (List.mem_of_getElem? he0))
        dsimp only at c0 c1 c2 c3 hkk hvv
        have hk14 : ek = 1 ∨ ek = 2 ∨ ek = 3 ∨ ek = 4 := by have := hkk.1; have := hkk.2.1; omega
        clear hkk
        have k0 : (0 : Int) ≤ (k : Int) := by omega
        have k1 : (k : Int) < (n : Int) := by omega
        rcases hk14 with rfl | rfl | rfl | rfl
        · as_aux_lemma =>
            have hbelx : Hid (Below w.heap.size w (wr.alloc (.cells #[.int .i64 es, .int .i64 et, .int .u8 1, .int .u64 ev] 37))) := hbel.out.alloc hsz.out _
            have hX := Blk.new wr 37 #[.int .i64 es, .int .i64 et, .int .u8 1, .int .u64 ev]
            have x0 := hX.cell 0
            have x1 := hX.cell 1
            have x2 := hX.cell 2
            have x3 := hX.cell 3
            simp only [List.getElem?_toArray, List.getElem?_cons_zero, List.getElem?_cons_succ] at x0 x1 x2 x3
            clear hX
            obtain ⟨w2, kv2, c2n, hput, hm2, hg2, ha2⟩ := put_as uMapB uInt (IsMapOf.below hO.out ((Below.refl _ _).alloc (Nat.le_refl _) (.cells #[.int .i64 es, .int .i64 et, .int .u8 1, .int .u64 ev] 37))) aO.out et (bgV (ev, es))
            have hoth : Hid (IsMapOf w2 (G + 1) .i64 kvW cW) := (IsMapOf.below hW.out ((Below.refl _ _).alloc (Nat.le_refl _) (.cells #[.int .i64 es, .int .i64 et, .int .u8 1, .int .u64 ev] 37))).grown hg2 (by simp)
            have hbel2 : Hid (Below w.heap.size w w2) := hbelx.out.grown hg2 (by have := hsz.out; simp; omega) (fun q hq => by cases hq; have := hGw.out; omega)
            have ha3 : Hid (MapAs kv2 c2n (opV (l.take (k + 1)))) := by
              have e : opV (l.take (k + 1)) = fun t => if t = et then some (bgV (ev, es)) else opV (l.take k) t := by
                funext t
                unfold opV
                rw [opS_take he0]
                unfold opU
                by_cases h : t = et
                · simp [h]
                · simp [h]
              unfold Hid
              rw [e]
              exact ha2
            have ha4 : Hid (MapAs kvW cW (waV (l.take (k + 1)))) := by
              have e : waV (l.take (k + 1)) = waV (l.take k) := by
                funext t
                unfold waV
                rw [waS_take he0]
                unfold waU
                by_cases h : t = et
                · simp [h]
                · simp [h]
              unfold Hid
              rw [e]
              exact aW.out
            have hm3 := Lib.hid hm2
            have hL2 : Hid (LateTo l (k + 1)) := late_step hL.out he0 (earB_not (by show (1 : Int) ≠ 4; decide))
            unfold bgV at hput
            dsimp only at hput
            clear hm2 hg2 ha2 hO hW aO aW hL he0 hbel hbelx
            go_wp2_with fail
            go_roundg g
            case measure => omega
            case rel => exact ⟨k + 1, kv2, c2n, kvW, cW, rfl, by omega, by go_num, hL2, hm3, ha3, hoth, ha4, hbel2⟩
        · as_aux_lemma =>
            have hbelx : Hid (Below w.heap.size w (wr.alloc (.cells #[.int .i64 es, .int .i64 et, .int .u8 2, .int .u64 ev] 37))) := hbel.out.alloc hsz.out _
            have hX := Blk.new wr 37 #[.int .i64 es, .int .i64 et, .int .u8 2, .int .u64 ev]
            have x0 := hX.cell 0
            have x1 := hX.cell 1
            have x2 := hX.cell 2
            have x3 := hX.cell 3
            simp only [List.getElem?_toArray, List.getElem?_cons_zero, List.getElem?_cons_succ] at x0 x1 x2 x3
            clear hX
            obtain ⟨w2, kv2, hdel, hm2, hg2, ha2⟩ := del_as (ty := 0) uMapB uInt (IsMapOf.below hO.out ((Below.refl _ _).alloc (Nat.le_refl _) (.cells #[.int .i64 es, .int .i64 et, .int .u8 2, .int .u64 ev] 37))) aO.out et
            have hoth : Hid (IsMapOf w2 (G + 1) .i64 kvW cW) := (IsMapOf.below hW.out ((Below.refl _ _).alloc (Nat.le_refl _) (.cells #[.int .i64 es, .int .i64 et, .int .u8 2, .int .u64 ev] 37))).grown hg2 (by simp)
            have hbel2 : Hid (Below w.heap.size w w2) := hbelx.out.grown hg2 (by have := hsz.out; simp; omega) (fun q hq => by cases hq; have := hGw.out; omega)
            have ha3 : Hid (MapAs kv2 cO (opV (l.take (k + 1)))) := by
              have e : opV (l.take (k + 1)) = fun t => if t = et then none else opV (l.take k) t := by
                funext t
                unfold opV
                rw [opS_take he0]
                unfold opU
                by_cases h : t = et
                · simp [h]
                · simp [h]
              unfold Hid
              rw [e]
              exact ha2
            have ha4 : Hid (MapAs kvW cW (waV (l.take (k + 1)))) := by
              have e : waV (l.take (k + 1)) = waV (l.take k) := by
                funext t
                unfold waV
                rw [waS_take he0]
                unfold waU
                by_cases h : t = et
                · simp [h]
                · simp [h]
              unfold Hid
              rw [e]
              exact aW.out
            have hm3 := Lib.hid hm2
            have hL2 : Hid (LateTo l (k + 1)) := late_step hL.out he0 (earB_not (by show (2 : Int) ≠ 4; decide))
            clear hm2 hg2 ha2 hO hW aO aW hL he0 hbel hbelx
            go_wp2_with fail
            go_roundg g
            case measure => omega
            case rel => exact ⟨k + 1, kv2, cO, kvW, cW, rfl, by omega, by go_num, hL2, hm3, ha3, hoth, ha4, hbel2⟩
        · as_aux_lemma =>
            have hbelx : Hid (Below w.heap.size w (wr.alloc (.cells #[.int .i64 es, .int .i64 et, .int .u8 3, .int .u64 ev] 37))) := hbel.out.alloc hsz.out _
            have hX := Blk.new wr 37 #[.int .i64 es, .int .i64 et, .int .u8 3, .int .u64 ev]
            have x0 := hX.cell 0
            have x1 := hX.cell 1
            have x2 := hX.cell 2
            have x3 := hX.cell 3
            simp only [List.getElem?_toArray, List.getElem?_cons_zero, List.getElem?_cons_succ] at x0 x1 x2 x3
            clear hX
            obtain ⟨w2, kv2, c2n, hput, hm2, hg2, ha2⟩ := put_as uMapB uInt (IsMapOf.below hW.out ((Below.refl _ _).alloc (Nat.le_refl _) (.cells #[.int .i64 es, .int .i64 et, .int .u8 3, .int .u64 ev] 37))) aW.out et (bgV (ev, es))
            have hoth : Hid (IsMapOf w2 G .i64 kvO cO) := (IsMapOf.below hO.out ((Below.refl _ _).alloc (Nat.le_refl _) (.cells #[.int .i64 es, .int .i64 et, .int .u8 3, .int .u64 ev] 37))).grown hg2 (by simp)
            have hbel2 : Hid (Below w.heap.size w w2) := hbelx.out.grown hg2 (by have := hsz.out; simp; omega) (fun q hq => by cases hq; have := hGw.out; omega)
            have ha3 : Hid (MapAs kv2 c2n (waV (l.take (k + 1)))) := by
              have e : waV (l.take (k + 1)) = fun t => if t = et then some (bgV (ev, es)) else waV (l.take k) t := by
                funext t
                unfold waV
                rw [waS_take he0]
                unfold waU
                by_cases h : t = et
                · simp [h]
                · simp [h]
              unfold Hid
              rw [e]
              exact ha2
            have ha4 : Hid (MapAs kvO cO (opV (l.take (k + 1)))) := by
              have e : opV (l.take (k + 1)) = opV (l.take k) := by
                funext t
                unfold opV
                rw [opS_take he0]
                unfold opU
                by_cases h : t = et
                · simp [h]
                · simp [h]
              unfold Hid
              rw [e]
              exact aO.out
            have hm3 := Lib.hid hm2
            have hL2 : Hid (LateTo l (k + 1)) := late_step hL.out he0 (earB_not (by show (3 : Int) ≠ 4; decide))
            unfold bgV at hput
            dsimp only at hput
            clear hm2 hg2 ha2 hO hW aO aW hL he0 hbel hbelx
            go_wp2_with fail
            go_roundg g
            case measure => omega
            case rel => exact ⟨k + 1, kvO, cO, kv2, c2n, rfl, by omega, by go_num, hL2, hoth, ha4, hm3, ha3, hbel2⟩
        · as_aux_lemma =>
            have hbelx : Hid (Below w.heap.size w (wr.alloc (.cells #[.int .i64 es, .int .i64 et, .int .u8 4, .int .u64 ev] 37))) := hbel.out.alloc hsz.out _
            have hX := Blk.new wr 37 #[.int .i64 es, .int .i64 et, .int .u8 4, .int .u64 ev]
            have x0 := hX.cell 0
            have x1 := hX.cell 1
            have x2 := hX.cell 2
            have x3 := hX.cell 3
            simp only [List.getElem?_toArray, List.getElem?_cons_zero, List.getElem?_cons_succ] at x0 x1 x2 x3
            clear hX
            have ha3 : Hid (MapAs kvO cO (opV (l.take (k + 1)))) := by
              have e : opV (l.take (k + 1)) = opV (l.take k) := by
                funext t
                unfold opV
                rw [opS_take he0]
                unfold opU
                by_cases h : t = et
                · simp [h]
                · simp [h]
              unfold Hid
              rw [e]
              exact aO.out
            have ha4 : Hid (MapAs kvW cW (waV (l.take (k + 1)))) := by
              have e : waV (l.take (k + 1)) = waV (l.take k) := by
                funext t
                unfold waV
                rw [waS_take he0]
                unfold waU
                by_cases h : t = et
                · simp [h]
                · simp [h]
              unfold Hid
              rw [e]
              exact aW.out
            have hmO2 : Hid (IsMapOf (wr.alloc (.cells #[.int .i64 es, .int .i64 et, .int .u8 4, .int .u64 ev] 37)) G .i64 kvO cO) := IsMapOf.below hO.out ((Below.refl _ _).alloc (Nat.le_refl _) _)
            have hmW2 : Hid (IsMapOf (wr.alloc (.cells #[.int .i64 es, .int .i64 et, .int .u8 4, .int .u64 ev] 37)) (G + 1) .i64 kvW cW) := IsMapOf.below hW.out ((Below.refl _ _).alloc (Nat.le_refl _) _)
            have hrg := run_range_map (P := Try.prog) (wr.alloc (.cells #[.int .i64 es, .int .i64 et, .int .u8 4, .int .u64 ev] 37)) 61 3 63 G (ents .i64 kvO).toArray cO uMapB hmO2.out
            have hxb := Lib.hid ((Blk.new wr 37 #[.int .i64 es, .int .i64 et, .int .u8 4, .int .u64 ev]).alloc (.mapIter (some G) cO #[] cO))
            have hGr : Hid (G + 1 < wr.heap.size) := (Array.getElem?_eq_some_iff.1 hW.out).1
            have hit : Hid (((wr.alloc (.cells #[.int .i64 es, .int .i64 et, .int .u8 4, .int .u64 ev] 37)).alloc (.mapIter (some G) cO #[] cO)).heap[wr.heap.size + 1]? = some (.mapIter (some G) cO #[] cO)) := by
              have := heap_alloc_new (wr.alloc (.cells #[.int .i64 es, .int .i64 et, .int .u8 4, .int .u64 ev] 37)) (.mapIter (some G) cO #[] cO)
              rw [World.size_alloc] at this
              exact this
            have hmO3 : Hid (IsMapOf ((wr.alloc (.cells #[.int .i64 es, .int .i64 et, .int .u8 4, .int .u64 ev] 37)).alloc (.mapIter (some G) cO #[] cO)) G .i64 kvO cO) := IsMapOf.below hmO2.out ((Below.refl _ _).alloc (Nat.le_refl _) _)
            have hmW3 : Hid (IsMapOf ((wr.alloc (.cells #[.int .i64 es, .int .i64 et, .int .u8 4, .int .u64 ev] 37)).alloc (.mapIter (some G) cO #[] cO)) (G + 1) .i64 kvW cW) := IsMapOf.below hmW2.out ((Below.refl _ _).alloc (Nat.le_refl _) _)
            have hbel3 : Hid (Below w.heap.size w ((wr.alloc (.cells #[.int .i64 es, .int .i64 et, .int .u8 4, .int .u64 ev] 37)).alloc (.mapIter (some G) cO #[] cO))) := hbelx.out.alloc (by have := hsz.out; simp; omega) _
            simp only [World.size_alloc] at hrg
            clear hO hW hmO2 hmW2 hbel hbelx
            go_wp2_with fail
            obtain ⟨R, hR⟩ : ∃ R, R = wr.heap.size := ⟨_, rfl⟩
            have hRw : Hid (w.heap.size ≤ R) := by unfold Hid; rw [hR]; exact hsz.out
            rw [← hR] at hit hxb hGr ⊢
            clear hR hsz hrg x0 x1 x2 x3
            go_loopg [8] (leftN kvO #[]) (fun gg v wi => ∃ (seen : Array Nat), v = .int .i64 (-1) ∧ Hid (gg = leftN kvO seen) ∧ Hid (wi.heap[R + 1]? = some (.mapIter (some G) cO seen cO)) ∧ Hid (IsMapOf wi G .i64 kvO cO) ∧ Hid (IsMapOf wi (G + 1) .i64 kvW cW) ∧ Hid (Blk wi R 37 #[.int .i64 es, .int .i64 et, .int .u8 4, .int .u64 ev]) ∧ Hid (∀ p ∈ kvO, p.2.2 ∈ seen → lateB (l.take k) ⟨es, et, 4, ev⟩ p.1 = false) ∧ Hid (Below w.heap.size w wi))
            case atStart => exact ⟨#[], rfl, rfl, hit, hmO3, hmW3, hxb, (fun p _ h => by simp at h), hbel3⟩
            case round =>
              clear hit hmO3 hmW3 hxb hbel3
              obtain ⟨seen, rfl, hgl, hit, hmO, hmW, hxb, hsn, hbel⟩ := hrel
              have hRi : Hid (R + 1 < wr.heap.size) := (Array.getElem?_eq_some_iff.1 hit.out).1
              rcases next_as 0 hmO.out aO.out hit.out (by have := hGr.out; omega) with ⟨hall, hrun⟩ | ⟨t, v, b, w2, hp, hs, hlt, hrun, hit2, hm2, hg2, hent⟩
              · have hL2 : Hid (LateTo l (k + 1)) := late_step hL.out he0 (earB_all (all_late aO.out hall hsn.out))
                clear hL he0 hall hsn hgl aO aW
                go_wp2_with fail
                go_roundg g
                case measure => omega
                case rel => exact ⟨k + 1, kvO, cO, kvW, cW, rfl, by omega, by go_num, hL2, hmO, ha3, hmW, ha4, hbel⟩
              · have hb2 : Hid (Below w.heap.size w w2) := hbel.out.grown hg2 (by have := hRi.out; have := hRw.out; omega) (fun q hq => by cases hq; have := hRw.out; omega)
                have hmW2 : Hid (IsMapOf w2 (G + 1) .i64 kvW cW) := IsMapOf.grown hmW.out hg2 (by have := hGr.out; simp; omega)
                have hxb2 : Hid (Blk w2 R 37 #[.int .i64 es, .int .i64 et, .int .u8 4, .int .u64 ev]) := hxb.out.grown hg2 (by simp)
                have hm3 := Lib.hid hm2
                have hit3 := Lib.hid hit2
                clear hm2 hit2 hg2 hbel hmW hxb hmO hit
                obtain ⟨p, hop, rfl⟩ : ∃ p : Int × Int, opS (l.take k) t = some p ∧ v = .agg #[.int .u64 p.1, .int .i64 p.2] := by
                  unfold opV at hs
                  cases ho : opS (l.take k) t with
                  | none => rw [ho] at hs; cases hs
                  | some p => rw [ho] at hs; exact ⟨p, rfl, (Option.some.inj hs).symm⟩
                obtain ⟨pv, ps⟩ := p
                obtain ⟨pe, hpe, hpp⟩ := opS_val hop
                have hpv : 0 ≤ pv := by
                  have h1 := (hw.out pe (List.mem_of_mem_take hpe)).2.1
                  injection hpp with h2 h3
                  rw [h2]
                  exact h1
                have hmW4 : Hid (IsMapOf (w2.alloc (.cells #[.int .u64 pv, .int .i64 ps] 63)) (G + 1) .i64 kvW cW) := IsMapOf.below hmW2.out ((Below.refl _ _).alloc (Nat.le_refl _) _)
                have hm4 : Hid (IsMapOf (w2.alloc (.cells #[.int .u64 pv, .int .i64 ps] 63)) G .i64 kvO cO) := IsMapOf.below hm3.out ((Below.refl _ _).alloc (Nat.le_refl _) _)
                have hxb4 := Lib.hid (hxb2.out.alloc (.cells #[.int .u64 pv, .int .i64 ps] 63))
                have hit4 : Hid ((w2.alloc (.cells #[.int .u64 pv, .int .i64 ps] 63)).heap[R + 1]? = some (.mapIter (some G) cO (seen.push b) cO)) := (Below.heap_alloc _ _ _ (Array.getElem?_eq_some_iff.1 hit3.out).1).trans hit3.out
                have hb4 : Hid (Below w.heap.size w (w2.alloc (.cells #[.int .u64 pv, .int .i64 ps] 63))) := hb2.out.alloc hb2.out.size _
                have hlk := look_as hmW4.out aW.out et
                have hlate : lateB (l.take k) ⟨es, et, 4, ev⟩ t = (decide (ps < fromW (l.take k) et) && inS ev pv) := by
                  unfold lateB
                  rw [hop]
                have x0 := hxb4.out.cell 0
                have x1 := hxb4.out.cell 1
                have x2 := hxb4.out.cell 2
                have x3 := hxb4.out.cell 3
                have hZ := Blk.new w2 63 #[.int .u64 pv, .int .i64 ps]
                have z0 := hZ.cell 0
                have z1 := hZ.cell 1
                simp only [List.getElem?_toArray, List.getElem?_cons_zero, List.getElem?_cons_succ] at x0 x1 x2 x3 z0 z1
                dsimp only at hrun hent
                generalize fromW (l.take k) et = ws at hlk hlate
                generalize ((waS (l.take k) et).getD (0, 0)).1 = wv at hlk
                have hfl := bgField wv ws
                clear hZ hs hop hpe hpp hmW2 hm3 hxb2 hit3 hb2
                by_cases c1 : ps < ws
                · have d1 := decide_eq_true c1
                  rw [d1, Bool.true_and] at hlate
                  go_wp2_with fail
                  refine (within_any ev pv hvv.out.2.1 hvv.out.2.2 hpv _).mono ?_
                  rintro e w4 ⟨rfl, hb⟩
                  have hmW5 : Hid (IsMapOf w4 (G + 1) .i64 kvW cW) := IsMapOf.below hmW4.out hb
                  have hm5 : Hid (IsMapOf w4 G .i64 kvO cO) := IsMapOf.below hm4.out hb
                  have hxb5 := Lib.hid (hxb4.out.below hb hxb4.out.lt)
                  have hit5 := Lib.hid ((hb.block _ (Array.getElem?_eq_some_iff.1 hit4.out).1).trans hit4.out)
                  have hb5 : Hid (Below w.heap.size w w4) := hb4.out.trans (hb.mono hb4.out.size)
                  clear hb x0 x1 x2 x3 z0 z1 hlk hrun hent hmW4 hm4 hxb4 hit4 hb4
                  cases hd : inS ev pv with
                  | true =>
                    rw [hd] at hlate
                    have hear := Lib.hid (earB_one (l := l) (k := k) (x := ⟨es, et, 4, ev⟩) rfl hlate)
                    have hhe := Lib.hid he0
                    clear hlate hd he0 hp hlt hsn hgl ha3 ha4 hxb5 hit5 hmW5 hm5
                    go_wp2_with fail
                    try rw [Exit.noGoto_ret]
                    go_ret2
                    exact ⟨k, 19, rfl, .inr (.inl ⟨hF.out, k, _, hhe.out, hL.out, hear.out, rfl, rfl⟩), hb5.out⟩
                  | false =>
                    rw [hd] at hlate
                    have hsn2 := Lib.hid (born_push aO.out hp hsn.out hlate)
                    clear hlate hd hp hsn
                    go_wp2_with fail
                    go_roundg (leftN kvO (seen.push b))
                    case measure => rw [hgl.out]; exact hlt
                    case rel => exact ⟨seen.push b, rfl, rfl, hit5, hm5, hmW5, hxb5, hsn2, hb5⟩
                · have d1 := decide_eq_false c1
                  rw [d1, Bool.false_and] at hlate
                  have hsn2 := Lib.hid (born_push aO.out hp hsn.out hlate)
                  clear hlate hp hsn
                  go_wp2_with fail
                  go_roundg (leftN kvO (seen.push b))
                  case measure => rw [hgl.out]; exact hlt
                  case rel => exact ⟨seen.push b, rfl, rfl, hit4, hm4, hmW4, hxb4, hsn2, hb4⟩
  · go_enter Try.func16, Try.ntmps16
    rw [he] at hck
    go_wp2_with fail
    go_step3
    go_wp2_with fail
    refine hck.mono ?_
    rintro e w1 ⟨rfl, hb⟩
    clear hck hr
    generalize hat : atL l = at0
    go_wp2_with fail
    try rw [Exit.noGoto_ret]
    go_ret2
    exact ⟨at0, 15, rfl, .inl ⟨he, hat.symm, rfl⟩, hb⟩
theorem gcheck_at (l : List Ev) (A : Option Addr) (n c : Nat) (w : World) (hr : Hid (Reads w w.heap.size 4 A n (evs l))) (hn : n ≤ 65536) (hw : Hid (WfE l)) :
    Calls Try.prog 16 #[.slice A n c] w (CkRes (gAt l) (gEr l) w) := (gcheck_end l A n c w hr hn hw).mono fun _ _ h => gk_res h
end Go.Proofs.Ythkppihfdlmhgaa
