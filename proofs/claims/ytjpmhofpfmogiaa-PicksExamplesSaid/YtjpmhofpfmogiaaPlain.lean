/- Chapter 10 in plain lists: the threads that picks choose, how often each is chosen, the picks without a thread. -/
import Derived.Test.YtjpmhofpfmogiaaNums
namespace Go.Proofs.Ytjpmhofpfmogiaa
open Go Go.RowKit

/-- The list's cells. -/
def ints (l : List Int) : List Value := l.map (Value.int .i64)
theorem ints_len (l : List Int) : (ints l).length = l.length := List.length_map _
theorem ints_append (a b : List Int) : ints (a ++ b) = ints a ++ ints b := List.map_append
theorem ints_get (l : List Int) (k : Nat) {u : Value} (h : (ints l)[k]? = some u) : ∃ v, l[k]? = some v ∧ u = .int .i64 v := by
  unfold ints at h
  rw [List.getElem?_map] at h
  cases hv : l[k]? with
  | none => rw [hv] at h; cases h
  | some v => rw [hv] at h; exact ⟨v, rfl, by simpa using h.symm⟩
theorem take_snoc {α : Type} {l : List α} {k : Nat} {v : α} (hv : l[k]? = some v) : l.take (k + 1) = l.take k ++ [v] := by
  rw [List.take_add_one, hv]
  rfl

/-- The threads that picks choose. -/
def chl (t : Int) (l : List Int) : List Int := l.map (· % t)
/-- The thread that a pick chooses, as a number below 64. -/
def thr (t p : Int) : Fin 64 := ⟨(p % t).toNat % 64, Nat.mod_lt _ (by decide)⟩
/-- A list of threads as ints. -/
def fins (l : List (Fin 64)) : List Int := l.map fun x => (x.val : Int)
theorem fins_append (a b : List (Fin 64)) : fins (a ++ b) = fins a ++ fins b := List.map_append
theorem fins_len (l : List (Fin 64)) : (fins l).length = l.length := List.length_map _
theorem thr_val {t : Int} (h1 : 1 ≤ t) (h2 : t ≤ 64) (p : Int) : ((thr t p).val : Int) = p % t := by
  have := mod_lo t p h1
  show (((p % t).toNat % 64 : Nat) : Int) = p % t
  omega
theorem thrs (t : Int) (h1 : 1 ≤ t) (h2 : t ≤ 64) (l : List Int) : fins (l.map (thr t)) = chl t l := by
  unfold fins chl
  rw [List.map_map]
  exact List.map_congr_left fun p _ => thr_val h1 h2 p
theorem chl_len (t : Int) (l : List Int) : (chl t l).length = l.length := List.length_map _
end Go.Proofs.Ytjpmhofpfmogiaa
