/- The reference's map, walked: place, Get, set, cut. -/
import Derived.Test.YtfghkmhabpagkaaMapM
import Derived.Test.YtfghkmhabpagkaaApp
import Derived.StillTailTactics
namespace Go.Proofs.Ytfghkmhabpagkaa
open Go Go.RowKit
set_option linter.unusedVariables false

/-- Block g is a map of the reference's that holds the pairs l. -/
def IsM (w : World) (g : Nat) (l : List Pr) : Prop :=
  ∃ A n c, Blk w g 85 #[.slice A n c] ∧ Reads w w.heap.size 2 A n (prs l) ∧ n ≤ 1000000 ∧ n ≤ c ∧ c ≤ 9223372036854775807
theorem IsM.lt {w : World} {g : Nat} {l : List Pr} (h : IsM w g l) : g < w.heap.size := by
  obtain ⟨A, n, c, hb, _⟩ := h
  exact hb.lt
theorem IsM.below {w w' : World} {g : Nat} {l : List Pr} (h : IsM w g l) (hb : Below w.heap.size w w') : IsM w' g l := by
  obtain ⟨A, n, c, h1, h2, h3⟩ := h
  exact ⟨A, n, c, h1.below hb h1.lt, (h2.below hb).more hb.size, h3⟩
/-- A slice of pairs does not lie in the map's own block. -/
theorem far_map {w : World} {B g b o n c : Nat} {A : Option Addr} {l : List Pr} (hb : Blk w g 85 #[.slice A n c]) {m : Nat} (h : Reads w B 2 (some ⟨b, o, none⟩) m (prs l)) (hm : 0 < m) : b ≠ g := by
  rintro rfl
  obtain ⟨p, _, h0, h1⟩ := prs_at (k := 0) h hm
  rw [hb.cell] at h0 h1
  rcases o with _ | o
  · simp at h0
  · simp at h0

/-- The place of a key. -/
def placeI (l : List Pr) (k : Int) : Int := match l.findIdx? (fun p => p.key == k) with | some i => i | none => -1
theorem place_none {l : List Pr} {k : Int} (h : look Pr.key l k = none) : placeI l k = -1 := by
  unfold placeI
  have : l.findIdx? (fun p => p.key == k) = none := by
    rw [List.findIdx?_eq_none_iff]
    intro p hp
    have := look_none.1 h p hp
    simpa using this
  rw [this]
theorem place_some {l : List Pr} {k : Int} {p : Pr} (h : look Pr.key l k = some p) : ∃ i : Nat, placeI l k = i ∧ l[i]? = some p := by
  unfold placeI
  rcases hi : l.findIdx? (fun p => p.key == k) with _ | i
  · rw [List.findIdx?_eq_none_iff] at hi
    obtain ⟨hm, hk⟩ := look_some h
    have := hi p hm
    simp [hk] at this
  · refine ⟨i, by rw [hi], ?_⟩
    unfold look at h
    rw [List.findIdx?_eq_some_iff_getElem] at hi
    obtain ⟨hlt, h1, h2⟩ := hi
    rw [List.find?_eq_some_iff_getElem] at h
    obtain ⟨h3, j, hj, h4, h5⟩ := h
    have : i = j := by
      rcases Nat.lt_trichotomy i j with hl | rfl | hl
      · have := h5 i hl
        rw [h1] at this
        cases this
      · rfl
      · have := h2 j hl
        rw [h4] at this
        exact absurd h3 this
    subst this
    rw [List.getElem?_eq_getElem hlt, h4]
theorem place_at {l : List Pr} {k : Int} {i : Nat} {p : Pr} (hn : look Pr.key (l.take i) k = none) (hp : l[i]? = some p) (hk : p.key = k) : placeI l k = i := by
  unfold placeI
  have : l.findIdx? (fun p => p.key == k) = some i := by
    rw [List.findIdx?_eq_some_iff_getElem]
    obtain ⟨hlt, rfl⟩ := List.getElem?_eq_some_iff.1 hp
    refine ⟨hlt, by simpa using hk, fun j hj => ?_⟩
    have := look_none.1 hn l[j] (by rw [List.mem_take_iff_getElem]; exact ⟨j, by omega, rfl⟩)
    simpa using this
  rw [this]
theorem look_step {l : List Pr} {k : Int} {i : Nat} {p : Pr} (hn : look Pr.key (l.take i) k = none) (hp : l[i]? = some p) (hk : p.key ≠ k) : look Pr.key (l.take (i + 1)) k = none := by
  rw [List.take_add_one, hp]
  unfold look at hn ⊢
  rw [List.find?_append, hn]
  simp [hk]

set_option maxHeartbeats 1000000 in
theorem place_any (l : List Pr) (g : Nat) (key : Int) (w : World) (hm : Hid (IsM w g l)) :
    Calls Try.prog 39 #[.pointer (some ⟨g, 0, none⟩), .int .u64 key] w fun e w' => e = .returned (.int .i64 (placeI l key)) ∧ w = w' := by
  obtain ⟨A, n, c, hB, hr, hn, hc, hc'⟩ := hm.out
  have hr := Lib.hid hr
  have hlen := Lib.hid (prs_n hr.out)
  have hg := hB.cell 0
  simp at hg
  have hB := Lib.hid hB
  clear hm
  go_enter Try.func39, Try.ntmps39
  go_wp2_with fail
  go_loop [5] (fun i => ∃ k : Nat, k ≤ n ∧ i = .int .i64 k ∧ Hid (look Pr.key (l.take k) key = none)) (fun i => n - (intOf i).toNat)
  case atStart => exact ⟨0, by omega, rfl, rfl⟩
  case round =>
    obtain ⟨k, hk, rfl, hno⟩ := hrel
    by_cases hlt : k < n
    · obtain ⟨b, o, rfl, hbB⟩ := reads_head hr.out (by omega) (by decide)
      obtain ⟨p, hx, p0, p1⟩ := prs_at hr.out hlt
      have hX := Lib.hid hx
      obtain ⟨pk, pv⟩ := p
      dsimp only at p0 p1
      have j0 : (0 : Int) ≤ (k : Int) := by omega
      have j1 : (k : Int) < (n : Int) := by omega
      clear hx
      by_cases he : pk = key
      · have hP := Lib.hid (place_at hno.out hX.out he)
        subst he
        have hd : (pk == pk) = true := by simp
        go_wp2_with fail
        go_ret
        exact ⟨by rw [hP.out]; rfl, rfl⟩
      · have hN := Lib.hid (look_step hno.out hX.out he)
        have hd : (pk == key) = false := by simpa using he
        clear he
        go_wp2_with fail
        go_round
        case rel => exact ⟨k + 1, by omega, by go_num, hN⟩
        case measure => simp [intOf]; omega
    · obtain rfl : k = n := by omega
      have hP : Hid (placeI l key = -1) := by
        have := hno.out
        rw [List.take_of_length_le (by have := hlen.out; omega)] at this
        exact place_none this
      go_wp2_with fail
      go_ret
      exact ⟨by rw [hP.out]; rfl, rfl⟩

/-- What Get returns. -/
def GetEnd (l : List Pr) (key : Int) (w : World) (e : Ending) (w' : World) : Prop :=
  (∀ p, look Pr.key l key = some p → e = .returned (.tuple #[.int .u64 p.val, .bool true])) ∧ (look Pr.key l key = none → e = .returned (.tuple #[.int .u64 0, .bool false])) ∧ Below w.heap.size w w'
set_option maxHeartbeats 1000000 in
theorem get_any (l : List Pr) (g : Nat) (key : Int) (w : World) (hm : Hid (IsM w g l)) :
    Calls Try.prog 44 #[.pointer (some ⟨g, 0, none⟩), .int .u64 key] w (GetEnd l key w) := by
  obtain ⟨A, n, c, hB, hr, hn, hc, hc'⟩ := hm.out
  have hr := Lib.hid hr
  have hlen := Lib.hid (prs_n hr.out)
  have hg := hB.cell 0
  simp at hg
  have hB := Lib.hid hB
  rcases hl : look Pr.key l key with _ | p
  · have hP := place_none hl
    have hL := Lib.hid hl
    clear hl
    have cP := place_any l g key w hm
    rw [hP] at cP
    clear hP
    go_enter Try.func44, Try.ntmps44
    go_wp2_with fail
    refine cP.mono ?_
    rintro e w1 ⟨rfl, rfl⟩
    go_wp2_with fail
    go_ret2
    exact ⟨fun p h => (by rw [hL.out] at h; cases h), fun _ => rfl, Below.refl _ _⟩
  · obtain ⟨i, hP, hi⟩ := place_some hl
    have hL := Lib.hid hl
    clear hl
    have cQ : ∀ q, Calls Try.prog 39 #[.pointer (some ⟨g, 0, none⟩), .int .u64 key] (w.drewN q) fun e w' => e = .returned (.int .i64 i) ∧ w.drewN q = w' := fun q => by
      rw [← hP]
      exact place_any l g key (w.drewN q) (hm.out.below (below_drewN (Below.refl _ _) q))
    have cP := place_any l g key w hm
    rw [hP] at cP
    clear hP
    have hin : i < n := by have := (List.getElem?_eq_some_iff.1 hi).1; have := hlen.out; omega
    obtain ⟨b, o, rfl, hbB⟩ := reads_head hr.out (by omega) (by decide)
    obtain ⟨q, hx, p0, p1⟩ := prs_at hr.out hin
    obtain rfl := Option.some.inj (hi.symm.trans hx)
    obtain ⟨pk, pv⟩ := p
    dsimp only at p0 p1
    have j0 : (0 : Int) ≤ (i : Int) := by omega
    have j1 : (i : Int) < (n : Int) := by omega
    clear hx hi
    go_enter Try.func44, Try.ntmps44
    go_wp2_with fail
    refine cP.mono ?_
    rintro e w1 ⟨rfl, rfl⟩
    go_wp2_with fail
    go_quiet ((go_at_call 39; exact quiet_left (cQ _)))
    go_wp2_with fail
    go_ret2
    exact ⟨fun p h => (by obtain rfl := Option.some.inj (hL.out.symm.trans h); rfl), fun h => (by rw [hL.out] at h; cases h), below_drewN (Below.refl _ _) _⟩
end Go.Proofs.Ytfghkmhabpagkaa
