/- The reference's keys, merged and find, walked (printed by gen_keys.py). -/
import Derived.Test.YtfghkmhabpagkaaInv
import Derived.Test.YtfghkmhabpagkaaThenM
import Derived.Test.YtfghkmhabpagkaaThenW
import Derived.Test.YtfghkmhabpagkaaDraws
import Derived.Laws.ResultCell
namespace Go.Proofs.Ytfghkmhabpagkaa
open Go Go.RowKit
set_option linter.unusedVariables false

def us (l : List Int) : List Value := l.map (Value.int .u64)
theorem us_append (a b : List Int) : us (a ++ b) = us a ++ us b := List.map_append ..
theorem us_one (x : Int) : us [x] = [.int .u64 x] := rfl
theorem us_len (l : List Int) : (us l).length = l.length := List.length_map ..
theorem us_all (l : List Int) : ∀ u ∈ us l, u.oneCell' = true := by
  intro u hu
  obtain ⟨x, _, rfl⟩ := List.mem_map.1 hu
  rfl
theorem u_one (x : Int) : ∀ u ∈ [Value.int .u64 x], u.oneCell' = true := us_all [x]
theorem us_n {w : World} {B n : Nat} {A : Option Addr} {l : List Int} (h : Reads w B 1 A n (us l)) : l.length = n := by have := h.1; rw [us_len] at this; omega
theorem us_at {w : World} {B n b o : Nat} {l : List Int} {k : Nat} (h : Reads w B 1 (some ⟨b, o, none⟩) n (us l)) (hk : k < n) : ∃ x : Int, l[k]? = some x ∧ w.cell? ⟨b, o + k, none⟩ = some (.int .u64 x) := by
  obtain ⟨ad, e, _, hc⟩ := h.2 (by omega)
  obtain rfl := Option.some.inj e
  have hl : k < l.length := by have := us_n h; omega
  refine ⟨l[k], List.getElem?_eq_getElem hl, ?_⟩
  have := hc k (.int .u64 l[k]) (by unfold us; rw [List.getElem?_map, List.getElem?_eq_getElem hl]; rfl)
  rwa [Addr.add_lit] at this
theorem keys_take {l : List Chg} {k : Nat} {c : Chg} (h : l[k]? = some c) : keysOf (l.take (k + 1)) = keysOf (l.take k) ++ [c.key] := by
  unfold keysOf
  rw [List.take_add_one, h, List.map_append]
  rfl
theorem keys_len (l : List Chg) : (keysOf l).length = l.length := List.length_map ..

section
variable {M os : List Int} {a b : List Int} {i k : Nat} {x y : Int}
theorem mrgIn_cons (x : Int) (f : List Int → List Int) (y : Int) (b : List Int) : mrgIn x f (y :: b) = if x < y then x :: f (y :: b) else if x = y then y :: f b else y :: mrgIn x f b := rfl
theorem mrg_cons (x : Int) (a b : List Int) : mrg (x :: a) b = mrgIn x (mrg a) b := rfl
theorem mrg_lt (h : M = os ++ mrg (a.drop i) (b.drop k)) (hx : a[i]? = some x) (hy : b[k]? = some y) (hl : x < y) : M = (os ++ [x]) ++ mrg (a.drop (i + 1)) (b.drop k) := by
  rw [h, drop_get hx, drop_get hy, mrg_cons, mrgIn_cons, if_pos hl]
  simp
theorem mrg_eq (h : M = os ++ mrg (a.drop i) (b.drop k)) (hx : a[i]? = some x) (hy : b[k]? = some y) (hl : x = y) : M = (os ++ [y]) ++ mrg (a.drop (i + 1)) (b.drop (k + 1)) := by
  rw [h, drop_get hx, drop_get hy, mrg_cons, mrgIn_cons, if_neg (by omega), if_pos hl]
  simp
theorem mrg_gt (h : M = os ++ mrg (a.drop i) (b.drop k)) (hx : a[i]? = some x) (hy : b[k]? = some y) (hl : y < x) : M = (os ++ [y]) ++ mrg (a.drop i) (b.drop (k + 1)) := by
  rw [h, drop_get hx, drop_get hy, mrg_cons, mrgIn_cons, if_neg (by omega), if_neg (by omega)]
  simp [mrg_cons]
theorem mrg_b0 (h : M = os ++ mrg (a.drop i) (b.drop k)) (hx : a[i]? = some x) (hk : b.length ≤ k) : M = (os ++ [x]) ++ mrg (a.drop (i + 1)) (b.drop k) := by
  rw [h, drop_get hx, List.drop_of_length_le hk, mrg_cons]
  simp [mrgIn]
theorem mrg_a0 (h : M = os ++ mrg (a.drop i) (b.drop k)) (hi : a.length ≤ i) (hy : b[k]? = some y) : M = (os ++ [y]) ++ mrg (a.drop i) (b.drop (k + 1)) := by
  rw [h, List.drop_of_length_le hi, drop_get hy]
  simp [mrg]
theorem mrg_00 (h : M = os ++ mrg (a.drop i) (b.drop k)) (hi : a.length ≤ i) (hk : b.length ≤ k) : M = os := by
  rw [h, List.drop_of_length_le hi, List.drop_of_length_le hk]
  simp [mrg]
end

/-- What find returns. -/
def FindEnd (l : List Chg) (k : Int) (w : World) (e : Ending) (w' : World) : Prop :=
  (∀ c, look Chg.key l k = some c → e = .returned (.tuple #[chV c, .bool true])) ∧ (look Chg.key l k = none → e = .returned (.tuple #[chV ⟨0, false, 0, false, 0⟩, .bool false])) ∧ Below w.heap.size w w'
theorem look_take {l : List Chg} {k : Int} {i : Nat} {c : Chg} (h : look Chg.key (l.take i) k = none) (hc : l[i]? = some c) : look Chg.key l k = if c.key = k then some c else look Chg.key (l.drop (i + 1)) k := by
  have : l = l.take i ++ c :: l.drop (i + 1) := by
    rw [← drop_get hc, List.take_append_drop]
  conv => lhs; rw [this]
  unfold look at h ⊢
  rw [List.find?_append, h]
  exact look_cons (key := Chg.key) c _ k
theorem look_take_no {l : List Chg} {k : Int} {i : Nat} {c : Chg} (h : look Chg.key (l.take i) k = none) (hc : l[i]? = some c) (hk : c.key ≠ k) : look Chg.key (l.take (i + 1)) k = none := by
  rw [List.take_add_one, hc]
  unfold look at h ⊢
  rw [List.find?_append, h]
  simp [hk]
end Go.Proofs.Ytfghkmhabpagkaa
