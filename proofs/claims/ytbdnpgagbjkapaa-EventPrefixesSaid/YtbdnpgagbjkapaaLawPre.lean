/- The law EventPrefixes, walked (printed by gen_lawpre.py). -/
import Derived.Test.YtbdnpgagbjkapaaLawThreads
namespace Go.Proofs.Ytbdnpgagbjkapaa
open Go Go.RowKit
set_option linter.unusedVariables false

/-- Two owned rows lie apart. -/
def Apart (u v : Value) : Prop := ∀ q, u.ownBlock = some q → v.ownBlock ≠ some q
theorem Apart.symm {u v : Value} (h : Apart u v) : Apart v u := fun q h1 h2 => h q h2 h1
theorem Apart.grow {u v u' : Value} {w : World} {base e size n : Nat} {xs : List Value} (h : Apart u v) (hv : w.ownsRow base e size v n xs) (hat : u'.ownBlock = u.ownBlock ∨ u'.ownBlock = some w.heap.size) : Apart u' v := by
  intro q hq
  rcases hat with h1 | h1
  · exact h q (by rw [← h1]; exact hq)
  · rw [h1] at hq
    obtain rfl := Option.some.inj hq
    intro h2
    have := (hv.lt _ h2).2
    omega
theorem Apart.kept {u v : Value} (h : Apart u v) : v.ownBlock = none ∨ v.ownBlock ≠ u.ownBlock := by
  rcases hu : u.ownBlock with _ | q
  · rcases hv : v.ownBlock with _ | r
    · exact .inl rfl
    · exact .inr (by simp)
  · exact .inr (h q hu)
theorem cutS_take {t : Int} {l : List Sec} {k : Nat} {s : Sec} (hs : l[k]? = some s) : (l.take (k + 1)).filterMap (cutS t) = (l.take k).filterMap (cutS t) ++ (cutS t s).toList := by
  rw [List.take_add_one, hs, Option.toList_some, List.filterMap_append]
  simp only [List.filterMap_cons, List.filterMap_nil]
  cases cutS t s <;> rfl
def still (l : List Sec) : List Sec := l.filter fun s => decide (s.exit < 0)
theorem still_yes (l : List Sec) {s : Sec} (h : s.exit < 0) : still (l ++ [s]) = still l ++ [s] := by
  unfold still
  rw [List.filter_append, List.filter_cons_of_pos (by simpa using h)]
  rfl
theorem still_no (l : List Sec) {s : Sec} (h : ¬ s.exit < 0) : still (l ++ [s]) = still l := by
  unfold still
  rw [List.filter_append, List.filter_cons_of_neg (by simpa using h)]
  simp
/-- What the law compares. -/
theorem pre_facts {l : List Ev} (h : FineTo l l.length) {t : Int} (ht : ¬ t < -1) :
    errL (preL l t) = 0 ∧ secL 1 (preL l t) = (secsK 1 l).filterMap (cutS t) ∧ secL 3 (preL l t) = (secsK 3 l).filterMap (cutS t) ∧ opnL l t = still ((secsK 1 l).filterMap (cutS t)) := by
  obtain ⟨m, hm, hp, hlo, hhi⟩ := pre_take h t
  have hP : preL l t = l.take m := (preL_fine h ht).trans hp
  have hfp := fine_take h m
  rw [hP, opnL_fine h ht, secL_fine hfp, secL_fine hfp]
  refine ⟨(at_fine hfp).2, secs_cut l m hlo hhi (by omega), secs_cut l m hlo hhi (by omega), open_cut _ fun s hs => ?_⟩
  obtain ⟨i, hi⟩ := List.getElem?_of_mem hs
  obtain ⟨a, ha⟩ := secsK_src hi
  exact (src_facts h ha).2.2.2

set_option maxRecDepth 100000 in
set_option maxHeartbeats 16000000 in
theorem prefixes_core (t : Int) (A : Option Addr) (n c : Nat) (l : List Ev) (w : World) (hr : Hid (Reads w w.heap.size 4 A n (evs l))) (hnc : n ≤ c) (hcap : c ≤ 9223372036854775807) :
    Calls Try.prog 4 #[.slice A n c, .int .i64 t] w fun e w' => e = .returned (.bool true) ∧ Below w.heap.size w w' := by
  have hLn := take_len80 l
  obtain ⟨i0, hi0, hz0, hz1, hz2⟩ := info_parts infoSec
  obtain ⟨j0, hj0, hy0, hy1, hy2⟩ := info_parts infoWait
  go_enter Try.func4, Try.ntmps4
  go_wp2_with fail
  refine (few_at l A n c _ hr hnc hcap).mono ?_
  rintro e w1 ⟨A1, N, c1, rfl, hN, ho, hb⟩
  obtain ⟨i1, k1, k1'⟩ := own_reads ho
  have hb1 := Lib.hid hb
  clear hr hb ho
  generalize l.take 80 = L at *
  have hNH : Hid (L.length = N) := hN.symm
  rw [← hN] at hLn
  clear hN
  have hpl := preL_len L t
  rw [hNH.out] at hpl
  go_wp2_with fail
  refine (prefix_at L A1 N c1 w1 i1 (by omega) t).mono ?_
  rintro e w2 ⟨Ap, np, cp, hE, hnp, ho, hb⟩
  obtain ⟨p2, kp, kp'⟩ := own_reads ho
  have hb2 := below_on hb1 hb
  have i2 := reads_on i1 hb
  rw [← hnp] at hpl
  clear hb ho hb1 i1
  rcases errL_cases L with ⟨hf0, he0⟩ | ⟨hf0, he0⟩
  · by_cases ht : t < -1
    · have hz2 : lookEr L t = 3 := by unfold lookEr; rw [if_pos hf0, if_pos ht]
      rw [hz2] at hE
      subst hE
      have hd : decide (t < -1) = true := by simpa using ht
      clear hf0 hz2 p2 hnp
      go_wp2_with fail
      refine (check_at L A1 N c1 w2 i2 (by omega)).mono ?_
      rintro e w3 ⟨hE, hb⟩
      rw [he0] at hE
      subst hE
      have hb3 := below_on hb2 hb
      clear hb hb2 i2 he0
      generalize atL L = at0
      go_wp2_with fail
      refine (awake_any _).mono ?_
      rintro e w9 ⟨rfl, hb⟩
      have hbe := below_on hb3 hb
      clear hb
      go_wp2_with fail
      go_ret
      exact ⟨rfl, hbe.out⟩
    · have hz2 := lookEr_fine hf0 ht
      rw [hz2] at hE
      subst hE
      obtain ⟨hq1, hq2, hq3, hq4⟩ := pre_facts hf0 ht
      have hS := secL_fine hf0 1
      have hW := secL_fine hf0 3
      have hl1 := secsK_len 1 L
      have hl3 := secsK_len 3 L
      rw [hNH.out] at hl1 hl3
      have hHE := Lib.hid he0
      have hQ1 := Lib.hid hq1
      have hQ2 := Lib.hid hq2
      have hQ3 := Lib.hid hq3
      have hQ4 := Lib.hid hq4
      have hHS := Lib.hid hS
      have hHW := Lib.hid hW
      have hEL := Lib.hid hz2
      clear hf0 he0 hq1 hq2 hq3 hq4 hz2 hS hW hnp ht
      generalize preL L t = P at *
      go_wp2_with fail
      refine (check_at P Ap np cp w2 p2 (by omega)).mono ?_
      rintro e w3 ⟨hE, hb⟩
      rw [hQ1.out] at hE
      subst hE
      have hb3 := below_on hb2 hb
      have i3 := reads_on i2 hb
      have p3 := reads_on p2 hb
      clear hb2 hb i2 p2
      generalize atL P = at1
      go_wp2_with fail
      refine (sections_at L A1 N c1 w3 i3 (by omega)).mono ?_
      rintro e w4 ⟨As, ns, cs, hE, hns, ho, hb⟩
      rw [hHE.out] at hE
      subst hE
      rw [hHS.out] at hns ho
      obtain ⟨z, ks, ks'⟩ := own_reads ho
      clear ho
      rw [← hns] at hl1
      have hNs := Lib.hid hns
      clear hns
      have hb4 := below_on hb3 hb
      have i4 := reads_on i3 hb
      have p4 := reads_on p3 hb
      have s4 := z
      clear hb3 hb i3 p3
      clear z
      go_wp2_with fail
      refine (sections_at P Ap np cp w4 p4 (by omega)).mono ?_
      rintro e w5 ⟨Aq, nq, cq, hE, hnq, ho, hb⟩
      rw [hQ1.out] at hE
      subst hE
      rw [hQ2.out] at hnq ho
      obtain ⟨z, kq, kq'⟩ := own_reads ho
      clear ho
      have hNq := Lib.hid hnq
      clear hnq
      have hb5 := below_on hb4 hb
      have i5 := reads_on i4 hb
      have p5 := reads_on p4 hb
      have s5 := reads_on s4 hb
      have q5 := z
      clear hb4 hb i4 p4 s4
      clear z
      go_wp2_with fail
      refine (waits_at L A1 N c1 w5 i5 (by omega)).mono ?_
      rintro e w6 ⟨Av, nv, cv, hE, hnv, ho, hb⟩
      rw [hHE.out] at hE
      subst hE
      rw [hHW.out] at hnv ho
      obtain ⟨z, kv, kv'⟩ := own_reads ho
      clear ho
      rw [← hnv] at hl3
      have hNv := Lib.hid hnv
      clear hnv
      have hb6 := below_on hb5 hb
      have i6 := reads_on i5 hb
      have p6 := reads_on p5 hb
      have s6 := reads_on s5 hb
      have q6 := reads_on q5 hb
      have v6 := z
      clear hb5 hb i5 p5 s5 q5
      clear z
      go_wp2_with fail
      refine (waits_at P Ap np cp w6 p6 (by omega)).mono ?_
      rintro e w7 ⟨Ax, nx, cx, hE, hnx, ho, hb⟩
      rw [hQ1.out] at hE
      subst hE
      rw [hQ3.out] at hnx ho
      obtain ⟨z, kx, kx'⟩ := own_reads ho
      clear ho
      have hNx := Lib.hid hnx
      clear hnx
      have hb7 := below_on hb6 hb
      have i7 := reads_on i6 hb
      have s7 := reads_on s6 hb
      have q7 := reads_on q6 hb
      have v7 := reads_on v6 hb
      have x7 := z
      clear hb6 hb i6 p6 s6 q6 v6
      clear z
      go_wp2_with fail
      refine (open_at L A1 N c1 w7 i7 (by omega) t).mono ?_
      rintro e w8 ⟨Ao, no, co, hE, hno, ho, hb⟩
      rw [hEL.out] at hE
      subst hE
      rw [hQ4.out] at hno ho
      obtain ⟨z, ko, ko'⟩ := own_reads ho
      clear ho
      have hNo := Lib.hid hno
      clear hno
      have hb8 := below_on hb7 hb
      have s8 := reads_on s7 hb
      have q8 := reads_on q7 hb
      have v8 := reads_on v7 hb
      have x8 := reads_on x7 hb
      have o8 := z
      clear hb7 hb i7 s7 q7 v7 x7
      clear z
      clear hHE hQ1 hQ2 hQ3 hQ4 hHS hHW hEL hNH
      generalize secsK 1 L = S at *
      generalize secsK 3 L = W at *
      go_wp2_with fail
      go_loopg [21, 22, 23] ns (fun g v u i wr => ∃ (k : Nat) (os ps : List Sec), k + g = ns ∧ i = .int .i64 k ∧ os.length ≤ k ∧ ps.length ≤ k ∧ Hid (os = (S.take k).filterMap (cutS t)) ∧ Hid (ps = still os) ∧ Hid (wr.ownsRow w8.heap.size 41 4 v os.length (secs os)) ∧ Hid (wr.ownsRow w8.heap.size 41 4 u ps.length (secs ps)) ∧ Hid (Apart v u) ∧ Hid (Below w8.heap.size w8 wr))
      case atStart => exact ⟨0, [], [], by omega, rfl, Nat.le_refl _, Nat.le_refl _, rfl, rfl, World.ownsRow_nil _ _ _ _, World.ownsRow_nil _ _ _ _, fun q h => by simp [Value.ownBlock] at h, Below.refl _ _⟩
      case round =>
        obtain ⟨k, os, ps, hk, rfl, hol, hpl2, hos, hpsE, hown, hps, hap, hbel⟩ := hrel
        cases gk with
        | zero =>
          as_aux_lemma =>
            obtain rfl : ns = k := by omega
            have hfs : Hid (os = S.filterMap (cutS t)) := by
              unfold Hid
              rw [hos.out, List.take_of_length_le (by rw [← hNs.out]; exact Nat.le_refl _)]
            obtain ⟨Ae, ce, rfl, _⟩ := own_form hown.out
            obtain ⟨Af, cf, rfl, _⟩ := own_form hps.out
            obtain ⟨z5, kz5, kz5'⟩ := own_reads hown.out
            obtain ⟨z6, kz6, kz6'⟩ := own_reads hps.out
            obtain ⟨wl, rfl⟩ : ∃ wl : World, wl = wr := ⟨_, rfl⟩
            have hbl := below_on hb8 hbel.out
            have ql := reads_on q8 hbel.out
            have vl := reads_on v8 hbel.out
            have xl := reads_on x8 hbel.out
            have ol := reads_on o8 hbel.out
            clear hbel hown hps hap hos
            go_wp2_with fail
            go_loopg [25, 26] nv (fun g v i wr => ∃ (k : Nat) (ws : List Sec), k + g = nv ∧ i = .int .i64 k ∧ ws.length ≤ k ∧ Hid (ws = (W.take k).filterMap (cutS t)) ∧ Hid (wr.ownsRow wl.heap.size 43 4 v ws.length (secs ws)) ∧ Hid (Below wl.heap.size wl wr))
            case atStart => exact ⟨0, [], by omega, rfl, Nat.le_refl _, rfl, World.ownsRow_nil _ _ _ _, Below.refl _ _⟩
            case round =>
              obtain ⟨k, ws, hk, rfl, hwl, hws, hown, hbel⟩ := hrel
              cases gk with
              | zero =>
                as_aux_lemma =>
                  obtain rfl : nv = k := by omega
                  have hfw : Hid (ws = W.filterMap (cutS t)) := by
                    unfold Hid
                    rw [hws.out, List.take_of_length_le (by rw [← hNv.out]; exact Nat.le_refl _)]
                  obtain ⟨Ag, cg, rfl, _⟩ := own_form hown.out
                  obtain ⟨z7, kz7, kz7'⟩ := own_reads hown.out
                  obtain ⟨wm, rfl⟩ : ∃ wm : World, wm = wr := ⟨_, rfl⟩
                  have hbm := below_on hbl hbel.out
                  have q9 := reads_on ql hbel.out
                  have x9 := reads_on xl hbel.out
                  have o9 := reads_on ol hbel.out
                  have a9 := reads_on z5 hbel.out
                  have b9 := reads_on z6 hbel.out
                  rw [← hfs.out] at q9
                  rw [← hfs.out, ← hpsE.out] at o9
                  rw [← hfw.out] at x9
                  have e1 : nq = os.length := by rw [hNq.out, ← hfs.out]
                  have e2 : nx = ws.length := by rw [hNx.out, ← hfw.out]
                  have e3 : no = ps.length := by rw [hNo.out, ← hfs.out, ← hpsE.out]
                  clear hbel hown hbl ql vl xl ol z5 z6 hNq hNx hNo hNs hNv
                  subst e1
                  subst e2
                  subst e3
                  obtain ⟨m1, hm1⟩ : ∃ m, os.length = m := ⟨_, rfl⟩
                  obtain ⟨m2, hm2⟩ : ∃ m, ps.length = m := ⟨_, rfl⟩
                  obtain ⟨m3, hm3⟩ : ∃ m, ws.length = m := ⟨_, rfl⟩
                  rw [hm1] at hol kz5 q9 a9
                  rw [hm2] at hpl2 kz6 o9 b9
                  rw [hm3] at hwl kz7 x9 z7
                  rw [hm1, hm2, hm3]
                  clear hm1 hm2 hm3
                  go_wp2_with fail
                  refine (sameSe os Aq Ae m1 m1 cq ce wm q9 a9 (by omega)).mono ?_
                  rintro e w11 ⟨rfl, hb⟩
                  have hb11 := below_on hbm hb
                  have x11 := reads_on x9 hb
                  have z11 := reads_on z7 hb
                  have o11 := reads_on o9 hb
                  have b11 := reads_on b9 hb
                  clear hb hbm q9 a9 x9 z7 o9 b9
                  go_wp2_with fail
                  refine (sameWa ws Ax Ag m3 m3 cx cg w11 x11 z11 (by omega)).mono ?_
                  rintro e w12 ⟨rfl, hb⟩
                  have hb12 := below_on hb11 hb
                  have o12 := reads_on o11 hb
                  have b12 := reads_on b11 hb
                  clear hb hb11 x11 z11 o11 b11
                  go_wp2_with fail
                  refine (sameSe ps Ao Af m2 m2 co cf w12 o12 b12 (by omega)).mono ?_
                  rintro e w13 ⟨rfl, hb⟩
                  have hb13 := below_on hb12 hb
                  clear hb hb12 o12 b12
                  go_wp2_with fail
                  refine (awake_any _).mono ?_
                  rintro e w14 ⟨rfl, hb⟩
                  have hb14 := below_on hb13 hb
                  clear hb hb13
                  go_wp2_with fail
                  go_ret
                  exact ⟨rfl, hb14.out⟩
              | succ g =>
                as_aux_lemma =>
                  have hsz := Lib.hid hbel.out.size
                  have ss := reads_on vl hbel.out
                  obtain ⟨b, o, rfl, hbB⟩ := reads_head ss.out (by omega) (by decide)
                  obtain ⟨⟨st, sv, sn, sx⟩, hE0, c0, c1', c2, c3⟩ := sec_at ss.out (show k < nv by omega)
                  have hct := cutS_take (t := t) hE0
                  dsimp only at c0 c1' c2 c3
                  have k0 : (0 : Int) ≤ (k : Int) := by omega
                  have k1 : (k : Int) < (nv : Int) := by omega
                  clear ss hE0
                  by_cases h1 : t < sn
                  · have hS2 : Hid (ws = (W.take (k + 1)).filterMap (cutS t)) := by
                      unfold Hid
                      rw [hct, show cutS t ⟨st, sv, sn, sx⟩ = none by unfold cutS; rw [if_pos h1], hws.out]
                      simp
                    clear hct
                    go_wp2_with fail
                    go_roundg g
                    case measure => omega
                    case rel => exact ⟨k + 1, ws, by omega, by go_num, by omega, hS2, hown, hbel⟩
                  · have h1' : sn ≤ t := by omega
                    by_cases h2 : t < sx
                    · as_aux_lemma =>
                        have hS2 : Hid (ws ++ [(⟨st, sv, sn, (-1)⟩ : Sec)] = (W.take (k + 1)).filterMap (cutS t)) := by
                          unfold Hid
                          rw [hct, show cutS t ⟨st, sv, sn, sx⟩ = some ⟨st, sv, sn, (-1)⟩ by unfold cutS; rw [if_neg (by dsimp only; omega)]; dsimp only; rw [if_pos h2], hws.out]
                          rfl
                        clear hct
                        have hX := Blk.new wr 43 #[.int .i64 st, .int .u64 sv, .int .i64 sn, .int .i64 sx]
                        have b0 := hX.cell 0
                        have b1 := hX.cell 1
                        have b2 := hX.cell 2
                        have b3 := hX.cell 3
                        have f3 := hX.frozen 3
                        simp only [List.getElem?_toArray, List.getElem?_cons_zero, List.getElem?_cons_succ] at b0 b1 b2 b3
                        clear hX
                        go_wp2_with (at_builtin; refine wpList_append_any _ rfl (.tmp 169) (.tmp 171) 32 rfl (wl.heap.size) 43 j0 _ 4 32 Try.underlying32 hj0 hy0 hy1 hy2 rfl (by decide) u25 ws.length (secs ws) rfl ((hown.out.alloc _).alloc _) (wr.heap.size + 2) (some ⟨wr.heap.size + 1, 0, none⟩) 1 1 (seC (⟨st, sv, sn, (-1)⟩ : Sec)) rfl ((reads_at (wr.alloc _) _ (seC (⟨st, sv, sn, (-1)⟩ : Sec)) 1 _ (by simp) rfl).more (by simp)) (seC_one _) (by unfold maxLen; omega) (by omega) (by have := hsz.out; simp; omega) ?_; intro v1 w3 hown1 hg1 hat1)
                        have hown3 : Hid (w3.ownsRow (wl.heap.size) 43 4 v1 (ws ++ [(⟨st, sv, sn, (-1)⟩ : Sec)]).length (secs (ws ++ [(⟨st, sv, sn, (-1)⟩ : Sec)]))) := by
                          unfold Hid
                          rw [List.length_append]
                          exact own_snocS hown1
                        have hbel3 : Hid (Below wl.heap.size wl w3) := ((hbel.out.alloc hsz.out _).alloc (by have := hsz.out; simp; omega) _).grown hg1 (by have := hsz.out; simp; omega) (fun q hq => (hown.out.lt q hq).1)
                        clear hown1 hg1 hat1
                        go_wp2_with fail
                        go_roundg g
                        case measure => omega
                        case rel => exact ⟨k + 1, ws ++ [(⟨st, sv, sn, (-1)⟩ : Sec)], by omega, by go_num, by simp; omega, hS2, hown3, hbel3⟩
                    · have h2' : sx ≤ t := by omega
                      as_aux_lemma =>
                        have hS2 : Hid (ws ++ [(⟨st, sv, sn, sx⟩ : Sec)] = (W.take (k + 1)).filterMap (cutS t)) := by
                          unfold Hid
                          rw [hct, show cutS t ⟨st, sv, sn, sx⟩ = some ⟨st, sv, sn, sx⟩ by unfold cutS; rw [if_neg (by dsimp only; omega)]; dsimp only; rw [if_neg h2], hws.out]
                          rfl
                        clear hct
                        have hX := Blk.new wr 43 #[.int .i64 st, .int .u64 sv, .int .i64 sn, .int .i64 sx]
                        have b0 := hX.cell 0
                        have b1 := hX.cell 1
                        have b2 := hX.cell 2
                        have b3 := hX.cell 3
                        have f3 := hX.frozen 3
                        simp only [List.getElem?_toArray, List.getElem?_cons_zero, List.getElem?_cons_succ] at b0 b1 b2 b3
                        clear hX
                        go_wp2_with (at_builtin; refine wpList_append_any _ rfl (.tmp 169) (.tmp 171) 32 rfl (wl.heap.size) 43 j0 _ 4 32 Try.underlying32 hj0 hy0 hy1 hy2 rfl (by decide) u25 ws.length (secs ws) rfl ((hown.out.alloc _).alloc _) (wr.heap.size + 2) (some ⟨wr.heap.size + 1, 0, none⟩) 1 1 (seC (⟨st, sv, sn, sx⟩ : Sec)) rfl ((reads_at (wr.alloc _) _ (seC (⟨st, sv, sn, sx⟩ : Sec)) 1 _ (by simp) rfl).more (by simp)) (seC_one _) (by unfold maxLen; omega) (by omega) (by have := hsz.out; simp; omega) ?_; intro v1 w3 hown1 hg1 hat1)
                        have hown3 : Hid (w3.ownsRow (wl.heap.size) 43 4 v1 (ws ++ [(⟨st, sv, sn, sx⟩ : Sec)]).length (secs (ws ++ [(⟨st, sv, sn, sx⟩ : Sec)]))) := by
                          unfold Hid
                          rw [List.length_append]
                          exact own_snocS hown1
                        have hbel3 : Hid (Below wl.heap.size wl w3) := ((hbel.out.alloc hsz.out _).alloc (by have := hsz.out; simp; omega) _).grown hg1 (by have := hsz.out; simp; omega) (fun q hq => (hown.out.lt q hq).1)
                        clear hown1 hg1 hat1
                        go_wp2_with fail
                        go_roundg g
                        case measure => omega
                        case rel => exact ⟨k + 1, ws ++ [(⟨st, sv, sn, sx⟩ : Sec)], by omega, by go_num, by simp; omega, hS2, hown3, hbel3⟩
        | succ g =>
          as_aux_lemma =>
            have hsz := Lib.hid hbel.out.size
            have ss := reads_on s8 hbel.out
            obtain ⟨b, o, rfl, hbB⟩ := reads_head ss.out (by omega) (by decide)
            obtain ⟨⟨st, sv, sn, sx⟩, hE0, c0, c1', c2, c3⟩ := sec_at ss.out (show k < ns by omega)
            have hct := cutS_take (t := t) hE0
            dsimp only at c0 c1' c2 c3
            have k0 : (0 : Int) ≤ (k : Int) := by omega
            have k1 : (k : Int) < (ns : Int) := by omega
            clear ss hE0
            by_cases h1 : t < sn
            · have hS2 : Hid (os = (S.take (k + 1)).filterMap (cutS t)) := by
                unfold Hid
                rw [hct, show cutS t ⟨st, sv, sn, sx⟩ = none by unfold cutS; rw [if_pos h1], hos.out]
                simp
              clear hct
              go_wp2_with fail
              go_roundg g
              case measure => omega
              case rel => exact ⟨k + 1, os, ps, by omega, by go_num, by omega, by omega, hS2, hpsE, hown, hps, hap, hbel⟩
            · have h1' : sn ≤ t := by omega
              by_cases h2 : t < sx
              · as_aux_lemma =>
                  have hS2 : Hid (os ++ [(⟨st, sv, sn, (-1)⟩ : Sec)] = (S.take (k + 1)).filterMap (cutS t)) := by
                    unfold Hid
                    rw [hct, show cutS t ⟨st, sv, sn, sx⟩ = some ⟨st, sv, sn, (-1)⟩ by unfold cutS; rw [if_neg (by dsimp only; omega)]; dsimp only; rw [if_pos h2], hos.out]
                    rfl
                  have hP2 : Hid (ps ++ [(⟨st, sv, sn, (-1)⟩ : Sec)] = still (os ++ [(⟨st, sv, sn, (-1)⟩ : Sec)])) := by
                    unfold Hid
                    rw [still_yes _ (by dsimp only; omega), hpsE.out]
                  have hXX : Hid (Blk (wr.alloc (.cells #[.int .i64 st, .int .u64 sv, .int .i64 sn, .int .i64 (-1)] 41)) wr.heap.size 41 #[.int .i64 st, .int .u64 sv, .int .i64 sn, .int .i64 (-1)]) := Blk.new wr _ _
                  clear hct
                  have hX := Blk.new wr 41 #[.int .i64 st, .int .u64 sv, .int .i64 sn, .int .i64 sx]
                  have b0 := hX.cell 0
                  have b1 := hX.cell 1
                  have b2 := hX.cell 2
                  have b3 := hX.cell 3
                  have f3 := hX.frozen 3
                  simp only [List.getElem?_toArray, List.getElem?_cons_zero, List.getElem?_cons_succ] at b0 b1 b2 b3
                  clear hX
                  go_wp2_with (at_builtin; first
                    | (refine wpList_append_any _ rfl (.tmp 136) (.tmp 138) 28 rfl (w8.heap.size) 41 i0 _ 4 32 Try.underlying28 hi0 hz0 hz1 hz2 rfl (by decide) u21 os.length (secs os) rfl ((hown.out.alloc _).alloc _) (wr.heap.size + 2) (some ⟨wr.heap.size + 1, 0, none⟩) 1 1 (seC (⟨st, sv, sn, (-1)⟩ : Sec)) rfl ((reads_at (wr.alloc _) _ (seC (⟨st, sv, sn, (-1)⟩ : Sec)) 1 _ (by simp) rfl).more (by simp)) (seC_one _) (by unfold maxLen; omega) (by omega) (by have := hsz.out; simp; omega) ?_
                       intro v1 w3 hown1 hg1 hat1
                       have hown3 : Hid (w3.ownsRow w8.heap.size 41 4 v1 (os ++ [(⟨st, sv, sn, (-1)⟩ : Sec)]).length (secs (os ++ [(⟨st, sv, sn, (-1)⟩ : Sec)]))) := by
                         unfold Hid
                         rw [List.length_append]
                         exact own_snocS hown1
                       have hbel3 : Hid (Below w8.heap.size w8 w3) := ((hbel.out.alloc hsz.out _).alloc (by have := hsz.out; simp; omega) _).grown hg1 (by have := hsz.out; simp; omega) (fun q hq => (hown.out.lt q hq).1)
                       have hps3 : Hid (w3.ownsRow w8.heap.size 41 4 u22 ps.length (secs ps)) := ((hps.out.alloc _).alloc _).kept hg1 hap.out.kept
                       have hap3 : Hid (Apart v1 u22) := Apart.grow hap.out ((hps.out.alloc _).alloc _) hat1
                       have hX3 := (hXX.out.alloc _).grown hg1 (fun h => by have := (hown.out.lt _ h.symm).2; omega)
                       have y0 := hX3.cell 0
                       have y1 := hX3.cell 1
                       have y2 := hX3.cell 2
                       have y3 := hX3.cell 3
                       simp only [List.getElem?_toArray, List.getElem?_cons_zero, List.getElem?_cons_succ] at y0 y1 y2 y3
                       have hsz3 := Lib.hid hbel3.out.size
                       have hlt3 := Lib.hid hX3.lt
                       clear hown1 hg1 hat1 hX3)
                    | (refine wpList_append_any _ rfl (.tmp 143) (.tmp 145) 28 rfl (w8.heap.size) 41 i0 _ 4 32 Try.underlying28 hi0 hz0 hz1 hz2 rfl (by decide) u22 ps.length (secs ps) rfl (hps3.out.alloc _) (w3.heap.size + 1) (some ⟨w3.heap.size, 0, none⟩) 1 1 (seC (⟨st, sv, sn, (-1)⟩ : Sec)) rfl ((reads_at w3 _ (seC (⟨st, sv, sn, (-1)⟩ : Sec)) 1 _ rfl rfl).more (by simp)) (seC_one _) (by unfold maxLen; omega) (by omega) (by have := hsz3.out; simp; omega) ?_
                       intro v2 w4 hown1 hg1 hat1))
                  have hbel4 : Hid (Below w8.heap.size w8 w4) := (hbel3.out.alloc hsz3.out _).grown hg1 (by have := hsz3.out; simp; omega) (fun q hq => (hps3.out.lt q hq).1)
                  have hps4 : Hid (w4.ownsRow w8.heap.size 41 4 v2 (ps ++ [(⟨st, sv, sn, (-1)⟩ : Sec)]).length (secs (ps ++ [(⟨st, sv, sn, (-1)⟩ : Sec)]))) := by
                    unfold Hid
                    rw [List.length_append]
                    exact own_snocS hown1
                  have hown4 : Hid (w4.ownsRow w8.heap.size 41 4 v1 (os ++ [(⟨st, sv, sn, (-1)⟩ : Sec)]).length (secs (os ++ [(⟨st, sv, sn, (-1)⟩ : Sec)]))) := (hown3.out.alloc _).kept hg1 hap3.out.symm.kept
                  have hap4 : Hid (Apart v1 v2) := (Apart.grow hap3.out.symm (hown3.out.alloc _) hat1).symm
                  clear hown1 hg1 hat1
                  go_wp2_with fail
                  go_roundg g
                  case measure => omega
                  case rel => exact ⟨k + 1, os ++ [(⟨st, sv, sn, (-1)⟩ : Sec)], ps ++ [(⟨st, sv, sn, (-1)⟩ : Sec)], by omega, by go_num, by simp; omega, by simp; omega, hS2, hP2, hown4, hps4, hap4, hbel4⟩
              · have h2' : sx ≤ t := by omega
                by_cases h3 : sx < 0
                · as_aux_lemma =>
                    have hS2 : Hid (os ++ [(⟨st, sv, sn, sx⟩ : Sec)] = (S.take (k + 1)).filterMap (cutS t)) := by
                      unfold Hid
                      rw [hct, show cutS t ⟨st, sv, sn, sx⟩ = some ⟨st, sv, sn, sx⟩ by unfold cutS; rw [if_neg (by dsimp only; omega)]; dsimp only; rw [if_neg h2], hos.out]
                      rfl
                    have hP2 : Hid (ps ++ [(⟨st, sv, sn, sx⟩ : Sec)] = still (os ++ [(⟨st, sv, sn, sx⟩ : Sec)])) := by
                      unfold Hid
                      rw [still_yes _ (by dsimp only; omega), hpsE.out]
                    have hXX : Hid (Blk (wr.alloc (.cells #[.int .i64 st, .int .u64 sv, .int .i64 sn, .int .i64 sx] 41)) wr.heap.size 41 #[.int .i64 st, .int .u64 sv, .int .i64 sn, .int .i64 sx]) := Blk.new wr _ _
                    clear hct
                    have hX := Blk.new wr 41 #[.int .i64 st, .int .u64 sv, .int .i64 sn, .int .i64 sx]
                    have b0 := hX.cell 0
                    have b1 := hX.cell 1
                    have b2 := hX.cell 2
                    have b3 := hX.cell 3
                    have f3 := hX.frozen 3
                    simp only [List.getElem?_toArray, List.getElem?_cons_zero, List.getElem?_cons_succ] at b0 b1 b2 b3
                    clear hX
                    go_wp2_with (at_builtin; first
                      | (refine wpList_append_any _ rfl (.tmp 136) (.tmp 138) 28 rfl (w8.heap.size) 41 i0 _ 4 32 Try.underlying28 hi0 hz0 hz1 hz2 rfl (by decide) u21 os.length (secs os) rfl ((hown.out.alloc _).alloc _) (wr.heap.size + 2) (some ⟨wr.heap.size + 1, 0, none⟩) 1 1 (seC (⟨st, sv, sn, sx⟩ : Sec)) rfl ((reads_at (wr.alloc _) _ (seC (⟨st, sv, sn, sx⟩ : Sec)) 1 _ (by simp) rfl).more (by simp)) (seC_one _) (by unfold maxLen; omega) (by omega) (by have := hsz.out; simp; omega) ?_
                         intro v1 w3 hown1 hg1 hat1
                         have hown3 : Hid (w3.ownsRow w8.heap.size 41 4 v1 (os ++ [(⟨st, sv, sn, sx⟩ : Sec)]).length (secs (os ++ [(⟨st, sv, sn, sx⟩ : Sec)]))) := by
                           unfold Hid
                           rw [List.length_append]
                           exact own_snocS hown1
                         have hbel3 : Hid (Below w8.heap.size w8 w3) := ((hbel.out.alloc hsz.out _).alloc (by have := hsz.out; simp; omega) _).grown hg1 (by have := hsz.out; simp; omega) (fun q hq => (hown.out.lt q hq).1)
                         have hps3 : Hid (w3.ownsRow w8.heap.size 41 4 u22 ps.length (secs ps)) := ((hps.out.alloc _).alloc _).kept hg1 hap.out.kept
                         have hap3 : Hid (Apart v1 u22) := Apart.grow hap.out ((hps.out.alloc _).alloc _) hat1
                         have hX3 := (hXX.out.alloc _).grown hg1 (fun h => by have := (hown.out.lt _ h.symm).2; omega)
                         have y0 := hX3.cell 0
                         have y1 := hX3.cell 1
                         have y2 := hX3.cell 2
                         have y3 := hX3.cell 3
                         simp only [List.getElem?_toArray, List.getElem?_cons_zero, List.getElem?_cons_succ] at y0 y1 y2 y3
                         have hsz3 := Lib.hid hbel3.out.size
                         have hlt3 := Lib.hid hX3.lt
                         clear hown1 hg1 hat1 hX3)
                      | (refine wpList_append_any _ rfl (.tmp 143) (.tmp 145) 28 rfl (w8.heap.size) 41 i0 _ 4 32 Try.underlying28 hi0 hz0 hz1 hz2 rfl (by decide) u22 ps.length (secs ps) rfl (hps3.out.alloc _) (w3.heap.size + 1) (some ⟨w3.heap.size, 0, none⟩) 1 1 (seC (⟨st, sv, sn, sx⟩ : Sec)) rfl ((reads_at w3 _ (seC (⟨st, sv, sn, sx⟩ : Sec)) 1 _ rfl rfl).more (by simp)) (seC_one _) (by unfold maxLen; omega) (by omega) (by have := hsz3.out; simp; omega) ?_
                         intro v2 w4 hown1 hg1 hat1))
                    have hbel4 : Hid (Below w8.heap.size w8 w4) := (hbel3.out.alloc hsz3.out _).grown hg1 (by have := hsz3.out; simp; omega) (fun q hq => (hps3.out.lt q hq).1)
                    have hps4 : Hid (w4.ownsRow w8.heap.size 41 4 v2 (ps ++ [(⟨st, sv, sn, sx⟩ : Sec)]).length (secs (ps ++ [(⟨st, sv, sn, sx⟩ : Sec)]))) := by
                      unfold Hid
                      rw [List.length_append]
                      exact own_snocS hown1
                    have hown4 : Hid (w4.ownsRow w8.heap.size 41 4 v1 (os ++ [(⟨st, sv, sn, sx⟩ : Sec)]).length (secs (os ++ [(⟨st, sv, sn, sx⟩ : Sec)]))) := (hown3.out.alloc _).kept hg1 hap3.out.symm.kept
                    have hap4 : Hid (Apart v1 v2) := (Apart.grow hap3.out.symm (hown3.out.alloc _) hat1).symm
                    clear hown1 hg1 hat1
                    go_wp2_with fail
                    go_roundg g
                    case measure => omega
                    case rel => exact ⟨k + 1, os ++ [(⟨st, sv, sn, sx⟩ : Sec)], ps ++ [(⟨st, sv, sn, sx⟩ : Sec)], by omega, by go_num, by simp; omega, by simp; omega, hS2, hP2, hown4, hps4, hap4, hbel4⟩
                · have h3' : 0 ≤ sx := by omega
                  as_aux_lemma =>
                    have hS2 : Hid (os ++ [(⟨st, sv, sn, sx⟩ : Sec)] = (S.take (k + 1)).filterMap (cutS t)) := by
                      unfold Hid
                      rw [hct, show cutS t ⟨st, sv, sn, sx⟩ = some ⟨st, sv, sn, sx⟩ by unfold cutS; rw [if_neg (by dsimp only; omega)]; dsimp only; rw [if_neg h2], hos.out]
                      rfl
                    have hP2 : Hid (ps = still (os ++ [(⟨st, sv, sn, sx⟩ : Sec)])) := by
                      unfold Hid
                      rw [still_no _ (by dsimp only; omega), hpsE.out]
                    have hXX : Hid (Blk (wr.alloc (.cells #[.int .i64 st, .int .u64 sv, .int .i64 sn, .int .i64 sx] 41)) wr.heap.size 41 #[.int .i64 st, .int .u64 sv, .int .i64 sn, .int .i64 sx]) := Blk.new wr _ _
                    clear hct
                    have hX := Blk.new wr 41 #[.int .i64 st, .int .u64 sv, .int .i64 sn, .int .i64 sx]
                    have b0 := hX.cell 0
                    have b1 := hX.cell 1
                    have b2 := hX.cell 2
                    have b3 := hX.cell 3
                    have f3 := hX.frozen 3
                    simp only [List.getElem?_toArray, List.getElem?_cons_zero, List.getElem?_cons_succ] at b0 b1 b2 b3
                    clear hX
                    go_wp2_with (
                      at_builtin
                      refine wpList_append_any _ rfl (.tmp 136) (.tmp 138) 28 rfl (w8.heap.size) 41 i0 _ 4 32 Try.underlying28 hi0 hz0 hz1 hz2 rfl (by decide) u21 os.length (secs os) rfl ((hown.out.alloc _).alloc _) (wr.heap.size + 2) (some ⟨wr.heap.size + 1, 0, none⟩) 1 1 (seC (⟨st, sv, sn, sx⟩ : Sec)) rfl ((reads_at (wr.alloc _) _ (seC (⟨st, sv, sn, sx⟩ : Sec)) 1 _ (by simp) rfl).more (by simp)) (seC_one _) (by unfold maxLen; omega) (by omega) (by have := hsz.out; simp; omega) ?_
                      intro v1 w3 hown1 hg1 hat1
                      have hown3 : Hid (w3.ownsRow w8.heap.size 41 4 v1 (os ++ [(⟨st, sv, sn, sx⟩ : Sec)]).length (secs (os ++ [(⟨st, sv, sn, sx⟩ : Sec)]))) := by
                        unfold Hid
                        rw [List.length_append]
                        exact own_snocS hown1
                      have hbel3 : Hid (Below w8.heap.size w8 w3) := ((hbel.out.alloc hsz.out _).alloc (by have := hsz.out; simp; omega) _).grown hg1 (by have := hsz.out; simp; omega) (fun q hq => (hown.out.lt q hq).1)
                      have hps3 : Hid (w3.ownsRow w8.heap.size 41 4 u22 ps.length (secs ps)) := ((hps.out.alloc _).alloc _).kept hg1 hap.out.kept
                      have hap3 : Hid (Apart v1 u22) := Apart.grow hap.out ((hps.out.alloc _).alloc _) hat1
                      have hX3 := (hXX.out.alloc _).grown hg1 (fun h => by have := (hown.out.lt _ h.symm).2; omega)
                      have y0 := hX3.cell 0
                      have y1 := hX3.cell 1
                      have y2 := hX3.cell 2
                      have y3 := hX3.cell 3
                      simp only [List.getElem?_toArray, List.getElem?_cons_zero, List.getElem?_cons_succ] at y0 y1 y2 y3
                      have hsz3 := Lib.hid hbel3.out.size
                      have hlt3 := Lib.hid hX3.lt
                      clear hown1 hg1 hat1 hX3)
                    go_roundg g
                    case measure => omega
                    case rel => exact ⟨k + 1, os ++ [(⟨st, sv, sn, sx⟩ : Sec)], ps, by omega, by go_num, by simp; omega, by omega, hS2, hP2, hown3, hps3, hap3, hbel3⟩
  · have hz2 : lookEr L t = 15 := by unfold lookEr; rw [if_neg hf0]
    rw [hz2] at hE
    subst hE
    clear hf0 hz2 p2 hnp
    go_wp2_with fail
    refine (check_at L A1 N c1 w2 i2 (by omega)).mono ?_
    rintro e w3 ⟨hE, hb⟩
    rw [he0] at hE
    subst hE
    have hb3 := below_on hb2 hb
    clear hb hb2 i2 he0
    generalize atL L = at0
    go_wp2_with fail
    refine (awake_any _).mono ?_
    rintro e w9 ⟨rfl, hb⟩
    have hbe := below_on hb3 hb
    clear hb
    go_wp2_with fail
    go_ret
    exact ⟨rfl, hbe.out⟩
theorem prefixes_law (A : Option Addr) (n c : Nat) (l : List Ev) (t : Int) (w : World) (hI : IsEvents w A n c l) (wt : (Lit.int .i64 t).wf = true) :
    Calls Try.prog 4 #[.slice A n c, .int .i64 t] w fun e w' => e = .returned (.bool true) ∧ Below w.heap.size w w' :=
  prefixes_core t A n c l w hI.reads hI.le (by have := hI.cap; unfold maxLen at this; exact this)
end Go.Proofs.Ytbdnpgagbjkapaa
