/- The reference's map, walked: Move, DeleteRange, Put, Delete. -/
import Derived.Test.YtfghkmhabpagkaaRefCut
import Derived.Test.YtfghkmhabpagkaaMoveP
import Derived.OpenShut
namespace Go.Proofs.Ytfghkmhabpagkaa
open Go Go.RowKit
set_option linter.unusedVariables false

theorem mapEnd_of_below {g : Nat} {l : List Pr} {w w' : World} (hm : IsM w g l) (hb : Below w.heap.size w w') : MapEnd g l w w' := ⟨hm.below hb, below_but hb g⟩
theorem MapEnd.after {g : Nat} {l m : List Pr} {w w1 w2 : World} (hb : Below w.heap.size w w1) (h : MapEnd g m w1 w2) : MapEnd g m w w2 := ⟨h.1, (below_but hb g).trans h.2⟩
/-- What lies below another mark than the map's block stays. -/
theorem below_map {B g : Nat} {w0 w w' : World} (hb : Below B w0 w) (h : w.grownBy w' (some g)) (hB : B ≤ w.heap.size) (hg : B ≤ g) : Below B w0 w' := hb.grown h hB fun k hk => by obtain rfl := Option.some.inj hk; exact hg

theorem getEnd_val {l : List Pr} {key : Int} {w w' : World} {e : Ending} (h : GetEnd l key w e w') : e = .returned (.tuple #[.int .u64 (val0 (look Pr.key l key)), .bool (look Pr.key l key).isSome]) ∧ Below w.heap.size w w' := by
  refine ⟨?_, h.2.2⟩
  rcases hl : look Pr.key l key with _ | p
  · exact h.2.1 hl
  · exact h.1 p hl

set_option maxHeartbeats 1000000 in
theorem delR_no (l : List Pr) (g : Nat) (lo hi : Int) (w : World) (hm : Hid (IsM w g l)) (h : hi < lo) :
    Calls Try.prog 50 #[.pointer (some ⟨g, 0, none⟩), .agg #[.int .u64 lo, .int .u64 hi]] w fun e w' => e = .returned (.tuple #[.int .i64 0, .int .i64 13]) ∧ Below w.heap.size w w' := by
  have hd : decide (hi < lo) = true := by simpa using h
  go_enter Try.func50, Try.ntmps50
  go_wp2_with fail
  go_ret2
  exact ⟨rfl, (Below.refl _ _).alloc (Nat.le_refl _) _⟩
set_option maxHeartbeats 1000000 in
theorem delR_ok (l : List Pr) (g : Nat) (lo hi : Int) (w : World) (hm : Hid (IsM w g l)) (h : ¬ hi < lo) :
    Calls Try.prog 50 #[.pointer (some ⟨g, 0, none⟩), .agg #[.int .u64 lo, .int .u64 hi]] w fun e w' => e = .returned (.tuple #[.int .i64 (inR lo hi l).length, .int .i64 0]) ∧ MapEnd g (outR lo hi l) w w' := by
  have hd : decide (hi < lo) = false := by simpa using h
  have hm1 : Hid (IsM (w.alloc (.cells #[.int .u64 lo, .int .u64 hi] 25)) g l) := hm.out.below ((Below.refl _ _).alloc (Nat.le_refl _) _)
  clear h
  go_enter Try.func50, Try.ntmps50
  go_wp2_with fail
  refine (cut_any l g lo hi _ hm1).mono ?_
  rintro e w2 ⟨A, c, rfl, _, hE⟩
  have hE2 : Hid (MapEnd g (outR lo hi l) w w2) := MapEnd.after (l := l) ((Below.refl _ _).alloc (Nat.le_refl _) _) hE
  clear hE
  go_wp2_with fail
  go_ret2
  exact ⟨rfl, hE2.out⟩

set_option maxHeartbeats 1000000 in
theorem put_any (l : List Pr) (g : Nat) (key val : Int) (w : World) (hm : Hid (IsM w g l)) (hl : l.length ≤ 900000) :
    Calls Try.prog 45 #[.pointer (some ⟨g, 0, none⟩), .int .u64 key, .int .u64 val] w fun e w' =>
      e = .returned (.tuple #[.int .u64 (val0 (look Pr.key l key)), .bool (look Pr.key l key).isSome, .int .i64 0]) ∧ MapEnd g (setP ⟨key, val⟩ l) w w' := by
  obtain ⟨x, hx⟩ : ∃ x, val0 (look Pr.key l key) = x := ⟨_, rfl⟩
  obtain ⟨y, hy⟩ : ∃ y, (look Pr.key l key).isSome = y := ⟨_, rfl⟩
  rw [hx, hy]
  have hX := Lib.hid (And.intro hx hy)
  clear hx hy
  go_enter Try.func45, Try.ntmps45
  go_wp2_with fail
  refine (get_any l g key w hm).mono ?_
  rintro e w1 h
  obtain ⟨rfl, hb⟩ := getEnd_val h
  rw [hX.out.1, hX.out.2]
  have hm1 : Hid (IsM w1 g l) := hm.out.below hb
  have hb1 := Lib.hid hb
  clear h hb
  go_wp2_with fail
  refine (set_any l g key val w1 hm1 hl).mono ?_
  rintro e w2 ⟨⟨v, rfl⟩, hE⟩
  have hE2 : Hid (MapEnd g (setP ⟨key, val⟩ l) w w2) := MapEnd.after (l := l) hb1.out hE
  clear hE
  go_wp2_with fail
  go_ret3
  exact ⟨rfl, hE2.out⟩

set_option maxHeartbeats 1000000 in
theorem del_any (l : List Pr) (g : Nat) (key : Int) (w : World) (hm : Hid (IsM w g l)) :
    Calls Try.prog 47 #[.pointer (some ⟨g, 0, none⟩), .int .u64 key] w fun e w' =>
      e = .returned (.tuple #[.int .u64 (val0 (look Pr.key l key)), .bool (look Pr.key l key).isSome, .int .i64 0]) ∧ MapEnd g (outR key key l) w w' := by
  obtain ⟨x, hx⟩ : ∃ x, val0 (look Pr.key l key) = x := ⟨_, rfl⟩
  obtain ⟨y, hy⟩ : ∃ y, (look Pr.key l key).isSome = y := ⟨_, rfl⟩
  rw [hx, hy]
  have hX := Lib.hid (And.intro hx hy)
  clear hx hy
  go_enter Try.func47, Try.ntmps47
  go_wp2_with fail
  refine (get_any l g key w hm).mono ?_
  rintro e w1 h
  obtain ⟨rfl, hb⟩ := getEnd_val h
  rw [hX.out.1, hX.out.2]
  have hm1 : Hid (IsM w1 g l) := hm.out.below hb
  have hb1 := Lib.hid hb
  clear h hb
  go_wp2_with fail
  refine (cut_any l g key key w1 hm1).mono ?_
  rintro e w2 ⟨A, c, rfl, _, hE⟩
  have hE2 : Hid (MapEnd g (outR key key l) w w2) := MapEnd.after (l := l) hb1.out hE
  clear hE
  go_wp2_with fail
  go_ret3
  exact ⟨rfl, hE2.out⟩

set_option maxHeartbeats 1000000 in
theorem mmove_bad (l : List Pr) (g : Nat) (lo hi by_ : Int) (w : World) (h : hi < lo ∨ by_ = 0) :
    Calls Try.prog 49 #[.pointer (some ⟨g, 0, none⟩), .agg #[.int .u64 lo, .int .u64 hi], .int .u64 by_] w fun e w' => e = .returned (.tuple #[.int .i64 0, .int .i64 13]) ∧ Below w.heap.size w w' := by
  by_cases h1 : hi < lo
  · have hd : decide (hi < lo) = true := by simpa using h1
    clear h
    go_enter Try.func49, Try.ntmps49
    go_wp2_with fail
    go_ret2
    exact ⟨rfl, (Below.refl _ _).alloc (Nat.le_refl _) _⟩
  · obtain rfl : by_ = 0 := by omega
    have hd : decide (hi < lo) = false := by simpa using h1
    have hd2 : ((0 : Int) == 0) = true := rfl
    clear h h1
    go_enter Try.func49, Try.ntmps49
    go_wp2_with fail
    go_ret2
    exact ⟨rfl, (Below.refl _ _).alloc (Nat.le_refl _) _⟩
set_option maxHeartbeats 1000000 in
theorem mmove_over (l : List Pr) (g : Nat) (lo hi by_ : Int) (w : World) (h : ¬ (hi < lo ∨ by_ = 0)) (h2 : 18446744073709551615 - hi < by_) (whi : (Lit.int .u64 hi).wf = true) :
    Calls Try.prog 49 #[.pointer (some ⟨g, 0, none⟩), .agg #[.int .u64 lo, .int .u64 hi], .int .u64 by_] w fun e w' => e = .returned (.tuple #[.int .i64 0, .int .i64 12]) ∧ Below w.heap.size w w' := by
  have hd : decide (hi < lo) = false := by simp; omega
  have hd2 : (by_ == 0) = false := by simp; omega
  have hhi := bounds_u64 whi
  obtain ⟨M, hM⟩ : ∃ M : Int, IntKind.u64.wrap (18446744073709551615 - hi) = M := ⟨_, rfl⟩
  have hd3 : decide (M < by_) = true := by
    have : M = 18446744073709551615 - hi := by rw [← hM, IntWalk.u64_in _ (by omega)]
    simp; omega
  clear h h2 whi hhi
  go_enter Try.func49, Try.ntmps49
  go_wp2_with fail
  go_ret2
  exact ⟨rfl, (Below.refl _ _).alloc (Nat.le_refl _) _⟩

theorem puts_step {base ts : List Pr} {k : Nat} {t : Pr} (h : ts[k]? = some t) : puts base (ts.take (k + 1)) = setP t (puts base (ts.take k)) := by
  rw [List.take_add_one, h]
  exact puts_snoc base (ts.take k) t

set_option maxRecDepth 100000 in
set_option maxHeartbeats 2000000 in
theorem mmove_ok (l : List Pr) (g : Nat) (lo hi by_ : Int) (w : World) (hm : Hid (IsM w g l)) (hl : l.length ≤ 400000) (h : ¬ (hi < lo ∨ by_ = 0)) (h2 : ¬ 18446744073709551615 - hi < by_)
    (hw : ∀ p ∈ l, (Lit.int .u64 p.key).wf = true ∧ (Lit.int .u64 p.val).wf = true) (whi : (Lit.int .u64 hi).wf = true) (wby : (Lit.int .u64 by_).wf = true) :
    Calls Try.prog 49 #[.pointer (some ⟨g, 0, none⟩), .agg #[.int .u64 lo, .int .u64 hi], .int .u64 by_] w fun e w' => e = .returned (.tuple #[.int .i64 (inR lo hi l).length, .int .i64 0]) ∧ MapEnd g (moved lo hi by_ l) w w' := by
  have hd : decide (hi < lo) = false := by simp; omega
  have hd2 : (by_ == 0) = false := by simp; omega
  have hhi := bounds_u64 whi
  have hby := bounds_u64 wby
  have hbd := Lib.hid (show ∀ q ∈ inR lo hi l, 0 ≤ q.key + by_ ∧ q.key + by_ ≤ 18446744073709551615 from fun q hq => by
    have h1 := in_bd (by_ := by_) hq
    have h3 := bounds_u64 (hw q (List.mem_filter.1 hq).1).1
    omega)
  obtain ⟨M, hM⟩ : ∃ M : Int, IntKind.u64.wrap (18446744073709551615 - hi) = M := ⟨_, rfl⟩
  have hd3 : decide (M < by_) = false := by
    have : M = 18446744073709551615 - hi := by rw [← hM, IntWalk.u64_in _ (by omega)]
    simp; omega
  have hgw := hm.out.lt
  have hm1 : Hid (IsM (w.alloc (.cells #[.int .u64 lo, .int .u64 hi] 25)) g l) := hm.out.below ((Below.refl _ _).alloc (Nat.le_refl _) _)
  clear h h2 whi wby hhi hby hw
  go_enter Try.func49, Try.ntmps49
  go_wp2_with fail
  refine (cut_any l g lo hi _ hm1).mono ?_
  rintro e w2 ⟨A, c, rfl, ho, hE⟩
  have hE2 : Hid (MapEnd g (outR lo hi l) w w2) := MapEnd.after (l := l) ((Below.refl _ _).alloc (Nat.le_refl _) _) hE
  have hl1 := inR_le lo hi l
  have hl2 := outR_le lo hi l
  have hmv : Hid (moved lo hi by_ l = puts (outR lo hi l) ((inR lo hi l).map (shP by_))) := rfl
  have ho : Hid (w2.ownsRow (w.heap.size + 1) 38 2 (.slice A (inR lo hi l).length c) (inR lo hi l).length (prs (inR lo hi l))) := own_base ho (by simp)
  obtain ⟨ms, hms⟩ : ∃ ms, inR lo hi l = ms := ⟨_, rfl⟩
  obtain ⟨os, hos⟩ : ∃ os, outR lo hi l = os := ⟨_, rfl⟩
  have hInL : Hid ((inR lo hi l).length = ms.length) := by unfold Hid; rw [hms]
  rw [hms] at hbd hl1 hmv ho ⊢
  rw [hos] at hl2 hmv hE2
  clear hE hms hos hm1 hd hd2 hd3 hM
  obtain ⟨I, hI⟩ : ∃ I, ms.length = I := ⟨_, rfl⟩
  rw [hI] at hl1 ho ⊢
  have hIL := Lib.hid hI
  clear hI
  have hng : Hid (Value.ownBlock (.slice A I c) ≠ some g) := fun h => by have := (ho.out.lt _ h).1; omega
  go_wp2_with fail
  go_loopw [9] (fun i wr => ∃ k : Nat, k ≤ I ∧ i = .int .i64 k ∧ Hid (MapEnd g (puts os ((ms.map (shP by_)).take k)) w wr) ∧ Hid (wr.ownsRow (w.heap.size + 1) 38 2 (.slice A I c) I (prs ms))) (fun i _ => I - (intOf i).toNat)
  case atStart => exact ⟨0, by omega, rfl, hE2.out, ho.out⟩
  case round =>
    clear hE2 ho
    obtain ⟨k, hk, rfl, hE, ho⟩ := hrel
    have j0 : (0 : Int) ≤ (k : Int) := by omega
    by_cases hlt : k < I
    · have hrr := Lib.hid (Reads.of_own ho.out)
      obtain ⟨b, o, rfl, hbB⟩ := reads_head hrr.out (by omega) (by decide)
      obtain ⟨p, hx, p0, p1⟩ := prs_at hrr.out hlt
      have hst := Lib.hid (puts_step (base := os) (sh_get (by_ := by_) hx))
      have hb := hbd.out p (List.mem_of_getElem? hx)
      obtain ⟨mk, mw⟩ := p
      dsimp only at p0 p1 hb
      obtain ⟨tk, htk⟩ : ∃ tk : Int, IntKind.u64.wrap (mk + by_) = tk := ⟨_, rfl⟩
      have htv : Hid (shP by_ ⟨mk, mw⟩ = ⟨tk, mw⟩) := by
        unfold Hid shP
        rw [← htk, IntWalk.u64_in _ hb]
      rw [htv.out] at hst
      have j1 : (k : Int) < (I : Int) := by omega
      have hpl : (puts os ((ms.map (shP by_)).take k)).length ≤ 900000 := by
        have h1 := puts_len ((ms.map (shP by_)).take k) os
        have h2 : ((ms.map (shP by_)).take k).length ≤ k := List.length_take_le _ _
        omega
      have hm2 : Hid (IsM wr.drew g (puts os ((ms.map (shP by_)).take k))) := hE.out.1.below (Below.refl _ _).drew
      clear hx hb
      go_wp2_with fail
      go_still_tail 14, (by kernel_rfl)
      change wpList _ _ _ _ _ wr.drew
      go_wp2_with fail
      refine (set_any _ g tk mw wr.drew hm2 hpl).mono ?_
      rintro e w3 ⟨⟨v, rfl⟩, hE3⟩
      have hE4 : Hid (MapEnd g (puts os ((ms.map (shP by_)).take (k + 1))) w w3) := by
        unfold Hid
        rw [hst.out]
        exact ⟨hE3.1, hE.out.2.trans ((below_but (Below.refl _ _).drew g).trans hE3.2)⟩
      have ho4 : Hid (w3.ownsRow (w.heap.size + 1) 38 2 (.slice (some ⟨b, o, none⟩) I c) I (prs ms)) := ho.out.drew.kept hE3.2 (.inr hng.out)
      clear hE3
      go_wp2_with fail
      go_roundw
      case rel => exact ⟨k + 1, by omega, by go_num, hE4, ho4⟩
      case measure => simp [intOf]; omega
    · obtain rfl : k = I := by omega
      have hE4 : Hid (MapEnd g (moved lo hi by_ l) w wr) := by
        unfold Hid
        rw [hmv.out]
        have := hE.out
        rwa [List.take_of_length_le (by rw [List.length_map, hIL.out]; exact Nat.le_refl _)] at this
      go_wp2_with fail
      go_ret2
      exact ⟨by rw [hInL.out, hIL.out]; rfl, hE4.out⟩
end Go.Proofs.Ytfghkmhabpagkaa
