/- All functions of chapter 10 in one form of contract; the law's helpers (printed by gen_res.py). -/
import Derived.Test.YtjpmhofpfmogiaaExp
namespace Go.Proofs.Ytjpmhofpfmogiaa
open Go Go.RowKit
set_option linter.unusedVariables false

/-- A list and an error are returned, the list in new memory (or nil). -/
def IntsRes (L : List Int) (er : Int) (w : World) (e : Ending) (w' : World) : Prop :=
  ∃ A c, e = .returned (.tuple #[.slice A L.length c, .int .i64 er]) ∧ w'.ownsRow w.heap.size 3 1 (.slice A L.length c) L.length (ints L) ∧ Below w.heap.size w w'
theorem intsRes_ok {L : List Int} {w w' : World} {e : Ending} (h : IntsEnd L w e w') : IntsRes L 0 w e w' := h
theorem intsRes_err {er : Int} {w w' : World} (hb : Below w.heap.size w w') : IntsRes [] er w (.returned (.tuple #[.slice none 0 0, .int .i64 er])) w' :=
  ⟨none, 0, rfl, World.ownsRow_nil _ _ _ _, hb⟩
/-- A number and an error are returned. -/
def NumRes (g er : Int) (w : World) (e : Ending) (w' : World) : Prop := e = .returned (.tuple #[.int .i64 g, .int .i64 er]) ∧ Below w.heap.size w w'

/-- The lists that are returned. -/
def chL (t : Int) (l : List Int) : List Int := if chk t 0 l.length = 0 then chl t l else []
def cnL (t : Int) (l : List Int) : List Int := if chk t 0 l.length = 0 then cnts t.toNat (chl t l) else []
def woL (t a : Int) (l : List Int) : List Int := if chk t a l.length = 0 then wo t a l else []
def gaN (t a : Int) (l : List Int) : Int := if chk t a l.length = 0 then ((gapR a (chl t l)).1 : Int) else 0
def rnL (t n : Int) : List Int := if siz t n = 0 then (List.range n.toNat).map (rnd t.toNat) else []
def mxL (s t n : Int) : List Int := if siz t n = 0 then (List.range n.toNat).map (mxd t.toNat s) else []
def exL (l : List Int) : List Int := if exErr l = 0 then expd l else []

theorem chosen_res (t : Int) (l : List Int) (A : Option Addr) (len cap : Nat) (w : World) (hr : Hid (Reads w w.heap.size 1 A len (ints l))) :
    Calls Try.prog 12 #[.int .i64 t, .slice A len cap] w (IntsRes (chL t l) (chk t 0 len) w) := by
  have hl : l.length = len := by have := hr.out.1; rw [ints_len] at this; omega
  unfold chL
  rw [hl]
  rcases chk_cases t 0 len with ⟨h, hc⟩ | ⟨h1, h2, h3, h4, h5, hc⟩ | ⟨h1, h2, h3, h4, h5, hc⟩
  · rw [if_neg (by omega)]
    exact ((callsIn_wide (n := 3)).1 (chosen_err Fence.wide 3 trivial trivial rfl (by decide) t A len cap w _ rfl (by omega))).mono fun e w' ⟨he, hw⟩ => by rw [he, ← hw]; exact intsRes_err (Below.refl _ _)
  · rw [if_neg (by omega)]
    exact ((callsIn_wide (n := 3)).1 (chosen_err Fence.wide 3 trivial trivial rfl (by decide) t A len cap w _ rfl (by omega))).mono fun e w' ⟨he, hw⟩ => by rw [he, ← hw]; exact intsRes_err (Below.refl _ _)
  · rw [if_pos hc, hc]
    exact ((callsIn_wide (n := 3)).1 (chosen_ok Fence.wide 3 trivial trivial trivial trivial trivial rfl (by decide) t h1 h2 l A len cap w hr (by omega)))

theorem rchosen_res (t : Int) (l : List Int) (A : Option Addr) (len cap : Nat) (w : World) (hr : Hid (Reads w w.heap.size 1 A len (ints l))) :
    Calls Try.prog 13 #[.int .i64 t, .slice A len cap] w (IntsRes (chL t l) (chk t 0 len) w) := by
  have hl : l.length = len := by have := hr.out.1; rw [ints_len] at this; omega
  unfold chL
  rw [hl]
  rcases chk_cases t 0 len with ⟨h, hc⟩ | ⟨h1, h2, h3, h4, h5, hc⟩ | ⟨h1, h2, h3, h4, h5, hc⟩
  · rw [if_neg (by omega)]
    exact (rchosens_err t A len cap w _ rfl (by omega)).mono fun e w' ⟨he, hw⟩ => by rw [he, ← hw]; exact intsRes_err (Below.refl _ _)
  · rw [if_neg (by omega)]
    exact (rchosens_err t A len cap w _ rfl (by omega)).mono fun e w' ⟨he, hw⟩ => by rw [he, ← hw]; exact intsRes_err (Below.refl _ _)
  · rw [if_pos hc, hc]
    exact (rchosens_ok t h1 h2 l A len cap w hr (by omega))

theorem counts_res (t : Int) (l : List Int) (A : Option Addr) (len cap : Nat) (w : World) (hr : Hid (Reads w w.heap.size 1 A len (ints l))) :
    Calls Try.prog 14 #[.int .i64 t, .slice A len cap] w (IntsRes (cnL t l) (chk t 0 len) w) := by
  have hl : l.length = len := by have := hr.out.1; rw [ints_len] at this; omega
  unfold cnL
  rw [hl]
  rcases chk_cases t 0 len with ⟨h, hc⟩ | ⟨h1, h2, h3, h4, h5, hc⟩ | ⟨h1, h2, h3, h4, h5, hc⟩
  · rw [if_neg (by omega)]
    exact ((callsIn_wide (n := 3)).1 (counts_err Fence.wide 3 trivial trivial rfl (by decide) t A len cap w _ rfl (by omega))).mono fun e w' ⟨he, hw⟩ => by rw [he, ← hw]; exact intsRes_err (Below.refl _ _)
  · rw [if_neg (by omega)]
    exact ((callsIn_wide (n := 3)).1 (counts_err Fence.wide 3 trivial trivial rfl (by decide) t A len cap w _ rfl (by omega))).mono fun e w' ⟨he, hw⟩ => by rw [he, ← hw]; exact intsRes_err (Below.refl _ _)
  · rw [if_pos hc, hc]
    obtain ⟨T, rfl⟩ := Int.eq_ofNat_of_zero_le (show 0 ≤ t by omega)
    rw [show ((T : Int)).toNat = T from rfl]
    exact ((callsIn_wide (n := 3)).1 (counts_ok Fence.wide 3 trivial trivial trivial trivial trivial rfl (by decide) T (by omega) (by omega) l A len cap w hr (by omega)))

theorem rcounts_res (t : Int) (l : List Int) (A : Option Addr) (len cap : Nat) (w : World) (hr : Hid (Reads w w.heap.size 1 A len (ints l))) :
    Calls Try.prog 15 #[.int .i64 t, .slice A len cap] w (IntsRes (cnL t l) (chk t 0 len) w) := by
  have hl : l.length = len := by have := hr.out.1; rw [ints_len] at this; omega
  unfold cnL
  rw [hl]
  rcases chk_cases t 0 len with ⟨h, hc⟩ | ⟨h1, h2, h3, h4, h5, hc⟩ | ⟨h1, h2, h3, h4, h5, hc⟩
  · rw [if_neg (by omega)]
    exact (rcounts_err t A len cap w _ rfl (by omega)).mono fun e w' ⟨he, hw⟩ => by rw [he, ← hw]; exact intsRes_err (Below.refl _ _)
  · rw [if_neg (by omega)]
    exact (rcounts_err t A len cap w _ rfl (by omega)).mono fun e w' ⟨he, hw⟩ => by rw [he, ← hw]; exact intsRes_err (Below.refl _ _)
  · rw [if_pos hc, hc]
    obtain ⟨T, rfl⟩ := Int.eq_ofNat_of_zero_le (show 0 ≤ t by omega)
    rw [show ((T : Int)).toNat = T from rfl]
    exact (rcounts_ok T (by omega) (by omega) l A len cap w hr (by omega))

theorem without_res (t a : Int) (l : List Int) (A : Option Addr) (len cap : Nat) (w : World) (hr : Hid (Reads w w.heap.size 1 A len (ints l))) :
    Calls Try.prog 16 #[.int .i64 t, .int .i64 a, .slice A len cap] w (IntsRes (woL t a l) (chk t a len) w) := by
  have hl : l.length = len := by have := hr.out.1; rw [ints_len] at this; omega
  unfold woL
  rw [hl]
  rcases chk_cases t a len with ⟨h, hc⟩ | ⟨h1, h2, h3, h4, h5, hc⟩ | ⟨h1, h2, h3, h4, h5, hc⟩
  · rw [if_neg (by omega)]
    exact (without_err t a A len cap w _ rfl (by omega)).mono fun e w' ⟨he, hw⟩ => by rw [he, ← hw]; exact intsRes_err (Below.refl _ _)
  · rw [if_neg (by omega)]
    exact (without_err t a A len cap w _ rfl (by omega)).mono fun e w' ⟨he, hw⟩ => by rw [he, ← hw]; exact intsRes_err (Below.refl _ _)
  · rw [if_pos hc, hc]
    exact without_ok t a h1 h2 h3 h4 l A len cap w hr (by omega)

theorem rwithout_res (t a : Int) (l : List Int) (A : Option Addr) (len cap : Nat) (w : World) (hr : Hid (Reads w w.heap.size 1 A len (ints l))) :
    Calls Try.prog 17 #[.int .i64 t, .int .i64 a, .slice A len cap] w (IntsRes (woL t a l) (chk t a len) w) := by
  have hl : l.length = len := by have := hr.out.1; rw [ints_len] at this; omega
  unfold woL
  rw [hl]
  rcases chk_cases t a len with ⟨h, hc⟩ | ⟨h1, h2, h3, h4, h5, hc⟩ | ⟨h1, h2, h3, h4, h5, hc⟩
  · rw [if_neg (by omega)]
    exact (rwithout_err t a A len cap w _ rfl (by omega)).mono fun e w' ⟨he, hw⟩ => by rw [he, ← hw]; exact intsRes_err (Below.refl _ _)
  · rw [if_neg (by omega)]
    exact (rwithout_err t a A len cap w _ rfl (by omega)).mono fun e w' ⟨he, hw⟩ => by rw [he, ← hw]; exact intsRes_err (Below.refl _ _)
  · rw [if_pos hc, hc]
    exact rwithout_ok t a h1 h2 h3 h4 l A len cap w hr (by omega)

theorem gap_res (t a : Int) (l : List Int) (A : Option Addr) (len cap : Nat) (w : World) (hr : Hid (Reads w w.heap.size 1 A len (ints l))) :
    Calls Try.prog 18 #[.int .i64 t, .int .i64 a, .slice A len cap] w (NumRes (gaN t a l) (chk t a len) w) := by
  have hl : l.length = len := by have := hr.out.1; rw [ints_len] at this; omega
  unfold gaN
  rw [hl]
  rcases chk_cases t a len with ⟨h, hc⟩ | ⟨h1, h2, h3, h4, h5, hc⟩ | ⟨h1, h2, h3, h4, h5, hc⟩
  · rw [if_neg (by omega)]
    exact (callsIn_wide (n := 3)).1 (gap_err Fence.wide 3 trivial trivial rfl (by decide) t a A len cap w _ rfl (by omega))
  · rw [if_neg (by omega)]
    exact (callsIn_wide (n := 3)).1 (gap_err Fence.wide 3 trivial trivial rfl (by decide) t a A len cap w _ rfl (by omega))
  · rw [if_pos hc, hc]
    obtain ⟨T, rfl⟩ := Int.eq_ofNat_of_zero_le (show 0 ≤ t by omega)
    exact (callsIn_wide (n := 3)).1 (gap_ok Fence.wide 3 trivial trivial trivial trivial trivial rfl (by decide) T (by omega) (by omega) a h3 h4 l A len cap w hr (by omega))
theorem rgap_res (t a : Int) (l : List Int) (A : Option Addr) (len cap : Nat) (w : World) (hr : Hid (Reads w w.heap.size 1 A len (ints l))) :
    Calls Try.prog 19 #[.int .i64 t, .int .i64 a, .slice A len cap] w (NumRes (gaN t a l) (chk t a len) w) := by
  have hl : l.length = len := by have := hr.out.1; rw [ints_len] at this; omega
  unfold gaN
  rw [hl]
  rcases chk_cases t a len with ⟨h, hc⟩ | ⟨h1, h2, h3, h4, h5, hc⟩ | ⟨h1, h2, h3, h4, h5, hc⟩
  · rw [if_neg (by omega)]
    exact (rgap_err t a A len cap w _ rfl (by omega)).mono fun e w' ⟨he, hw⟩ => ⟨he, by rw [← hw]; exact Below.refl _ _⟩
  · rw [if_neg (by omega)]
    exact (rgap_err t a A len cap w _ rfl (by omega)).mono fun e w' ⟨he, hw⟩ => ⟨he, by rw [← hw]; exact Below.refl _ _⟩
  · rw [if_pos hc, hc]
    exact rgap_ok t a h1 h2 h3 h4 l A len cap w hr (by omega)

theorem round_res (t n : Int) (w : World) :
    Calls Try.prog 28 #[.int .i64 t, .int .i64 n] w (IntsRes (rnL t n) (siz t n) w) := by
  unfold rnL
  rcases siz_cases t n with ⟨h1, hc⟩ | ⟨h1, h2, h3, hc⟩ | ⟨h1, h2, h3, hc⟩ | ⟨h1, h2, h3, h4, hc⟩
  · rw [if_neg (by omega)]
    exact (round_err t n w _ rfl (by omega)).mono fun e w' ⟨he, hw⟩ => by rw [he]; exact intsRes_err hw
  · rw [if_neg (by omega)]
    exact (round_err t n w _ rfl (by omega)).mono fun e w' ⟨he, hw⟩ => by rw [he]; exact intsRes_err hw
  · rw [if_neg (by omega)]
    exact (round_err t n w _ rfl (by omega)).mono fun e w' ⟨he, hw⟩ => by rw [he]; exact intsRes_err hw
  · rw [if_pos hc, hc]
    obtain ⟨T, rfl⟩ := Int.eq_ofNat_of_zero_le (show 0 ≤ t by omega)
    obtain ⟨N, rfl⟩ := Int.eq_ofNat_of_zero_le (show 0 ≤ n by omega)
    exact round_ok T N (by omega) (by omega) (by omega) w

theorem rround_res (t n : Int) (w : World) :
    Calls Try.prog 29 #[.int .i64 t, .int .i64 n] w (IntsRes (rnL t n) (siz t n) w) := by
  unfold rnL
  rcases siz_cases t n with ⟨h1, hc⟩ | ⟨h1, h2, h3, hc⟩ | ⟨h1, h2, h3, hc⟩ | ⟨h1, h2, h3, h4, hc⟩
  · rw [if_neg (by omega)]
    exact (rround_err t n w _ rfl (by omega)).mono fun e w' ⟨he, hw⟩ => by rw [he, ← hw]; exact intsRes_err (Below.refl _ _)
  · rw [if_neg (by omega)]
    exact (rround_err t n w _ rfl (by omega)).mono fun e w' ⟨he, hw⟩ => by rw [he, ← hw]; exact intsRes_err (Below.refl _ _)
  · rw [if_neg (by omega)]
    exact (rround_err t n w _ rfl (by omega)).mono fun e w' ⟨he, hw⟩ => by rw [he, ← hw]; exact intsRes_err (Below.refl _ _)
  · rw [if_pos hc, hc]
    obtain ⟨T, rfl⟩ := Int.eq_ofNat_of_zero_le (show 0 ≤ t by omega)
    obtain ⟨N, rfl⟩ := Int.eq_ofNat_of_zero_le (show 0 ≤ n by omega)
    exact rround_ok T N (by omega) (by omega) (by omega) w

theorem mixed_res (s : Int) (t n : Int) (w : World) :
    Calls Try.prog 30 #[.int .u64 s, .int .i64 t, .int .i64 n] w (IntsRes (mxL s t n) (siz t n) w) := by
  unfold mxL
  rcases siz_cases t n with ⟨h1, hc⟩ | ⟨h1, h2, h3, hc⟩ | ⟨h1, h2, h3, hc⟩ | ⟨h1, h2, h3, h4, hc⟩
  · rw [if_neg (by omega)]
    exact (mixed_err s t n w _ rfl (by omega)).mono fun e w' ⟨he, hw⟩ => by rw [he]; exact intsRes_err hw
  · rw [if_neg (by omega)]
    exact (mixed_err s t n w _ rfl (by omega)).mono fun e w' ⟨he, hw⟩ => by rw [he]; exact intsRes_err hw
  · rw [if_neg (by omega)]
    exact (mixed_err s t n w _ rfl (by omega)).mono fun e w' ⟨he, hw⟩ => by rw [he]; exact intsRes_err hw
  · rw [if_pos hc, hc]
    obtain ⟨T, rfl⟩ := Int.eq_ofNat_of_zero_le (show 0 ≤ t by omega)
    obtain ⟨N, rfl⟩ := Int.eq_ofNat_of_zero_le (show 0 ≤ n by omega)
    exact mixed_ok s T N (by omega) (by omega) (by omega) w

theorem rmixed_res (s : Int) (t n : Int) (w : World) :
    Calls Try.prog 31 #[.int .u64 s, .int .i64 t, .int .i64 n] w (IntsRes (mxL s t n) (siz t n) w) := by
  unfold mxL
  rcases siz_cases t n with ⟨h1, hc⟩ | ⟨h1, h2, h3, hc⟩ | ⟨h1, h2, h3, hc⟩ | ⟨h1, h2, h3, h4, hc⟩
  · rw [if_neg (by omega)]
    exact (rmixed_err s t n w _ rfl (by omega)).mono fun e w' ⟨he, hw⟩ => by rw [he, ← hw]; exact intsRes_err (Below.refl _ _)
  · rw [if_neg (by omega)]
    exact (rmixed_err s t n w _ rfl (by omega)).mono fun e w' ⟨he, hw⟩ => by rw [he, ← hw]; exact intsRes_err (Below.refl _ _)
  · rw [if_neg (by omega)]
    exact (rmixed_err s t n w _ rfl (by omega)).mono fun e w' ⟨he, hw⟩ => by rw [he, ← hw]; exact intsRes_err (Below.refl _ _)
  · rw [if_pos hc, hc]
    obtain ⟨T, rfl⟩ := Int.eq_ofNat_of_zero_le (show 0 ≤ t by omega)
    obtain ⟨N, rfl⟩ := Int.eq_ofNat_of_zero_le (show 0 ≤ n by omega)
    exact rmixed_ok s T N (by omega) (by omega) (by omega) w

theorem expand_res (l : List Int) (A : Option Addr) (len cap : Nat) (w : World) (hr : Hid (Reads w w.heap.size 1 A len (ints l))) (hlen : len ≤ 65536) :
    Calls Try.prog 25 #[.slice A len cap] w (IntsRes (exL l) (exErr l) w) := by
  have hl : l.length = len := by have := hr.out.1; rw [ints_len] at this; omega
  have h : Calls Try.prog 25 #[.slice A len cap] w (ExpEnd l w) := by
    rcases Nat.mod_two_eq_zero_or_one len with h | h
    · exact expand_even l A len cap w hr hlen h
    · exact expand_odd l A len cap w hl h
  refine h.mono ?_
  rintro e w' (⟨h0, he⟩ | ⟨h0, rfl, hb⟩)
  · unfold exL
    rw [if_pos h0, h0]
    exact he
  · unfold exL
    rw [if_neg h0]
    exact intsRes_err hb

theorem rexpand_res (l : List Int) (A : Option Addr) (len cap : Nat) (w : World) (hr : Hid (Reads w w.heap.size 1 A len (ints l))) (hlen : len ≤ 65536) :
    Calls Try.prog 26 #[.slice A len cap] w (IntsRes (exL l) (exErr l) w) := by
  have hl : l.length = len := by have := hr.out.1; rw [ints_len] at this; omega
  have h : Calls Try.prog 26 #[.slice A len cap] w (ExpEnd l w) := by
    rcases Nat.mod_two_eq_zero_or_one len with h | h
    · exact rexpand_even l A len cap w hr hlen h
    · exact rexpand_odd l A len cap w hl h
  refine h.mono ?_
  rintro e w' (⟨h0, he⟩ | ⟨h0, rfl, hb⟩)
  · unfold exL
    rw [if_pos h0, h0]
    exact he
  · unfold exL
    rw [if_neg h0]
    exact intsRes_err hb

/-! ### The law's helpers -/
set_option maxHeartbeats 1000000 in
theorem eq_same (l : List Int) (A A' : Option Addr) (n n' c c' : Nat) (w : World) (hr : Hid (Reads w w.heap.size 1 A n (ints l))) (hr' : Hid (Reads w w.heap.size 1 A' n' (ints l))) (hn : n ≤ 4611686018427387904) :
    Calls Try.prog 20 #[.slice A n c, .slice A' n' c'] w fun e w' => e = .returned (.bool true) ∧ Below w.heap.size w w' := by
  obtain rfl : n = n' := by have h1 := hr.out.1; have h2 := hr'.out.1; omega
  go_enter Try.func20, Try.ntmps20
  go_wp2_with fail
  go_loopw [5] (fun i wr => ∃ k : Nat, k ≤ n ∧ i = .int .i64 k ∧ Hid (Below w.heap.size w wr)) (fun i _ => n - (intOf i).toNat)
  case atStart => exact ⟨0, by omega, rfl, Below.refl _ _⟩
  case round =>
    obtain ⟨k, hk, rfl, hbel⟩ := hrel
    by_cases hlt : k < n
    · obtain ⟨ad, u, rfl, _, hx, hc⟩ := (hr.out.below hbel.out).at_ hlt
      obtain ⟨ad', u', rfl, _, hx', hc'⟩ := (hr'.out.below hbel.out).at_ hlt
      obtain rfl : u = u' := Option.some.inj (hx.symm.trans hx')
      obtain ⟨v, hv, rfl⟩ := ints_get l k hx
      clear hx hx' hv
      have i0 : (0 : Int) ≤ (k : Int) := by omega
      have i1 : (k : Int) < (n : Int) := by omega
      go_wp2_with fail
      go_quiet (fail)
      go_wp2
      go_roundw
      case rel => exact ⟨k + 1, by omega, by go_num, below_drewN hbel.out _⟩
      case measure => simp [intOf]; omega
    · go_wp2
      go_ret
      exact ⟨rfl, hbel.out⟩

/-- A list is returned in new memory (or nil). -/
def CopyEnd (L : List Int) (n : Nat) (w : World) (e : Ending) (w' : World) : Prop :=
  ∃ A c, e = .returned (.slice A n c) ∧ w'.ownsRow w.heap.size 3 1 (.slice A n c) n (ints L) ∧ Below w.heap.size w w'
theorem ints_one (l : List Int) : ∀ u ∈ ints l, u.oneCell' = true := by
  intro u hu
  obtain ⟨v, _, rfl⟩ := List.mem_map.1 hu
  rfl
theorem copy_any (l : List Int) (A : Option Addr) (n c : Nat) (w : World) (hr : Hid (Reads w w.heap.size 1 A n (ints l))) (hn : n ≤ 65537) :
    Calls Try.prog 24 #[.slice A n c] w (CopyEnd l n w) := by
  obtain ⟨i0, hi0, hz0, hz1, hz2⟩ := info_parts infoInt
  go_enter Try.func24, Try.ntmps24
  go_wp2_with (at_builtin; refine wpList_append_any _ rfl _ _ 22 rfl w.heap.size 3 i0 (.int .i64 0) 1 8 Try.underlying22 hi0 hz0 hz1 hz2 rfl (by decide) (.slice none 0 0) 0 [] rfl (World.ownsRow_nil _ _ _ _) w.heap.size A n c (ints l) rfl hr.out (ints_one l) (by unfold maxLen; omega) (by omega) (Nat.le_refl _) ?_; intro v' w1 hown' hgrow hat)
  simp only [Nat.zero_add, List.nil_append] at hown'
  obtain ⟨A', c', rfl, _⟩ := own_form hown'
  have hb := (Below.refl w.heap.size w).grown hgrow (Nat.le_refl _) (fun k e => by simp [Value.ownBlock] at e)
  go_ret
  exact ⟨A', c', rfl, hown', hb⟩
theorem ints_take (l : List Int) (k : Nat) : (ints l).take (k * 1) = ints (l.take k) := by
  unfold ints
  rw [Nat.mul_one, List.map_take]
/-- The picks that are tried. -/
def fewL (l : List Int) : List Int := if 65536 < l.length then l.take 65537 else l.take 400
theorem fewL_len (l : List Int) : (fewL l).length ≤ 65537 ∧ ((fewL l).length ≤ 400 ∨ (fewL l).length = 65537) := by
  unfold fewL
  split <;> rw [List.length_take] <;> omega
theorem few_any (l : List Int) (A : Option Addr) (n c : Nat) (w : World) (hr : Hid (Reads w w.heap.size 1 A n (ints l))) (hnc : n ≤ c) (hc : c ≤ 9223372036854775807) :
    Calls Try.prog 11 #[.slice A n c] w (CopyEnd (fewL l) (fewL l).length w) := by
  have hl : l.length = n := by have := hr.out.1; rw [ints_len] at this; omega
  by_cases hbig : 65536 < n
  · have e0 : fewL l = l.take 65537 := by unfold fewL; rw [if_pos (by omega)]
    have e1 : (fewL l).length = 65537 := by rw [e0, List.length_take]; omega
    have hr2 : Hid (Reads w w.heap.size 1 A 65537 (ints (fewL l))) := by
      rw [e0, ← ints_take]
      exact hr.out.take_ (by omega)
    have h1 : (65536 : Int) < (n : Int) := by omega
    have h2 : (65537 : Int) ≤ (c : Int) := by omega
    rw [e1]
    clear e0 e1
    go_enter Try.func11, Try.ntmps11
    go_wp2_with fail
    refine (copy_any _ _ _ _ _ hr2 (by omega)).mono ?_
    rintro e w1 ⟨A1, c1, rfl, hown, hb⟩
    go_wp2_with fail
    go_ret
    exact ⟨A1, c1, rfl, hown, hb⟩
  · have e0 : fewL l = l.take 400 := by unfold fewL; rw [if_neg (by omega)]
    have h1 : ¬ ((65536 : Int) < (n : Int)) := by omega
    by_cases h4 : n ≤ 400
    · have e1 : fewL l = l := by rw [e0]; exact List.take_of_length_le (by omega)
      rw [e1, hl]
      have h5 : (n : Int) ≤ 400 := by omega
      go_enter Try.func11, Try.ntmps11
      go_wp2_with fail
      refine (copy_any l A _ _ _ hr (by omega)).mono ?_
      rintro e w1 ⟨A1, c1, rfl, hown, hb⟩
      go_wp2_with fail
      go_ret
      exact ⟨A1, c1, rfl, hown, hb⟩
    · have e1 : (fewL l).length = 400 := by rw [e0, List.length_take]; omega
      have hr2 : Hid (Reads w w.heap.size 1 A 400 (ints (fewL l))) := by
        rw [e0, ← ints_take]
        exact hr.out.take_ (by omega)
      have h5 : ¬ ((n : Int) ≤ 400) := by omega
      have h2 : (400 : Int) ≤ (c : Int) := by omega
      rw [e1]
      clear e0 e1
      go_enter Try.func11, Try.ntmps11
      go_wp2_with fail
      refine (copy_any _ _ _ _ _ hr2 (by omega)).mono ?_
      rintro e w1 ⟨A1, c1, rfl, hown, hb⟩
      go_wp2_with fail
      go_ret
      exact ⟨A1, c1, rfl, hown, hb⟩
theorem mod_any (n t : Int) (h1 : 1 ≤ t) (h2 : t ≤ 64) (w : World) :
    Calls Try.prog 27 #[.int .i64 n, .int .i64 t] w fun e w' => e = .returned (.int .i64 (n % t)) ∧ w = w' := by
  have hc := of_core t n h1 h2
  go_enter Try.func27, Try.ntmps27
  go_wp2
  go_ret
  exact ⟨rfl, rfl⟩
end Go.Proofs.Ytjpmhofpfmogiaa
