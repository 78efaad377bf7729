/- A map of the program's in a law: what a change of it leaves; what lies beside it. -/
import Derived.Test.YtfghkmhabpagkaaONew
namespace Go.Proofs.Ytfghkmhabpagkaa
open Go Go.RowKit
set_option linter.unusedVariables false

theorem below_on {w0 w w' : World} (h : Hid (Below w0.heap.size w0 w)) (hb : Below w.heap.size w w') : Hid (Below w0.heap.size w0 w') := h.out.trans (hb.mono h.out.size)
theorem reads_on {w w' : World} {size n : Nat} {A : Option Addr} {xs : List Value} (h : Hid (Reads w w.heap.size size A n xs)) (hb : Below w.heap.size w w') : Hid (Reads w' w'.heap.size size A n xs) := (h.out.below hb).more hb.size
def Stays (w w' : World) (g : Nat) (v v' : Value) : Prop := But w w' g v ∧ Since w v v'
theorem Stays.of_below {w w' : World} {g : Nat} {v : Value} (h : Below w.heap.size w w') : Stays w w' g v v := ⟨But.of_below h, Since.refl _ _⟩
theorem Stays.trans {w w1 w2 : World} {g : Nat} {v v1 v2 : Value} (h1 : Stays w w1 g v v1) (h2 : Stays w1 w2 g v1 v2) : Stays w w2 g v v2 := ⟨h1.1.trans h2.1 h1.2, Since.trans h1.1.size h1.2 h2.2⟩
/-- Block g is a map that holds l; it was made behind the world B. -/
structure MapAt (B w : World) (g : Nat) (v : Value) (l : List Pr) : Prop where
  o : IsO w B.heap.size g v l
  bel : Below B.heap.size B w
theorem MapAt.below {B w w' : World} {g : Nat} {v : Value} {l : List Pr} (h : MapAt B w g v l) (hb : Below w.heap.size w w') : MapAt B w' g v l := ⟨h.o.below hb, h.bel.trans (hb.mono h.bel.size)⟩
theorem mapAt_on {B w w' : World} {g : Nat} {v : Value} {l : List Pr} (h : Hid (MapAt B w g v l)) (hb : Below w.heap.size w w') : Hid (MapAt B w' g v l) := h.out.below hb
theorem MapAt.ends {B w w' : World} {g : Nat} {v : Value} {l m : List Pr} (h : MapAt B w g v l) (he : OEnd B.heap.size g v m w w') : ∃ v', MapAt B w' g v' m ∧ Stays w w' g v v' := by
  obtain ⟨v', ho, hb, hs⟩ := he
  exact ⟨v', ⟨ho, But.below h.bel hb h.bel.size h.o.lo h.o.row_lo⟩, hb, hs⟩
/-- Block q is neither the map's nor its row's. -/
def Aside (w : World) (g : Nat) (v : Value) (q : Nat) : Prop := q < w.heap.size ∧ q ≠ g ∧ v.ownBlock ≠ some q
theorem Aside.on {w w' : World} {g q : Nat} {v v' : Value} (h : Aside w g v q) (hs : Stays w w' g v v') : Aside w' g v' q := by
  refine ⟨Nat.lt_of_lt_of_le h.1 hs.1.size, h.2.1, fun e => ?_⟩
  rcases hs.2 q e with h1 | h1
  · exact h.2.2 h1
  · exact absurd h.1 (by omega)
theorem aside_new {B w w' : World} {g q : Nat} {v : Value} {l : List Pr} (h : MapAt B w g v l) (hq : w.heap.size ≤ q) (hq' : q < w'.heap.size) : Aside w' g v q := by
  refine ⟨hq', ?_, fun e => ?_⟩
  · have := h.o.blk.lt; omega
  · have := (h.o.own.lt q e).2; omega
/-- A slice beside the map. -/
def Kp (w : World) (g : Nat) (v : Value) (size : Nat) (A : Option Addr) (n : Nat) (xs : List Value) : Prop := Reads w w.heap.size size A n xs ∧ ∀ ad, A = some ad → 0 < n → Aside w g v ad.block
theorem cell_block {w w' : World} {ad : Addr} (j : Nat) (h : w'.heap[ad.block]? = w.heap[ad.block]?) : w'.cell? (ad.add j) = w.cell? (ad.add j) := by
  have hb : (ad.add j).block = ad.block := by unfold Addr.add; split <;> rfl
  unfold World.cell?
  rw [hb, h]
theorem kp_on {w w' : World} {g : Nat} {v v' : Value} {size n : Nat} {A : Option Addr} {xs : List Value} (h : Hid (Kp w g v size A n xs)) (hs : Stays w w' g v v') : Hid (Kp w' g v' size A n xs) := by
  obtain ⟨h1, h2⟩ := h.out
  refine ⟨⟨h1.1, fun hn => ?_⟩, fun ad e hn => (h2 ad e hn).on hs⟩
  obtain ⟨ad, e, hb, hc⟩ := h1.2 hn
  have ha := h2 ad e hn
  refine ⟨ad, e, Nat.lt_of_lt_of_le hb hs.1.size, fun j u hu => ?_⟩
  rw [cell_block j (hs.1.block ad.block ha.1 ha.2.1 ha.2.2)]
  exact hc j u hu
theorem kp_new {B w w' : World} {g : Nat} {v : Value} {l : List Pr} {T : TypeId} {size n c : Nat} {A : Option Addr} {xs : List Value} (h : MapAt B w g v l) (ho : w'.ownsRow w.heap.size T size (.slice A n c) n xs) : Hid (Kp w' g v size A n xs) := by
  refine ⟨Reads.of_own ho, fun ad e hn => ?_⟩
  rcases ho.2 with ⟨e1, h0⟩ | ⟨g', cap, cur, hv, hb, hg, _⟩
  · omega
  · injection hv with e1
    rw [e] at e1
    obtain rfl := Option.some.inj e1
    exact aside_new h hb (Blk.lt hg)
/-- What lay there before the base stays. -/
theorem kp_old {B w : World} {g : Nat} {v : Value} {l : List Pr} {size n : Nat} {A : Option Addr} {xs : List Value} (h : MapAt B w g v l) (hr : Reads B B.heap.size size A n xs) : Hid (Kp w g v size A n xs) := by
  refine ⟨(hr.below h.bel).more h.bel.size, fun ad e hn => ?_⟩
  obtain ⟨ad', e', hb, _⟩ := hr.2 hn
  rw [e] at e'
  obtain rfl := Option.some.inj e'
  refine ⟨Nat.lt_of_lt_of_le hb h.bel.size, ?_, fun e => ?_⟩
  · have := h.o.lo; omega
  · have := h.o.row_lo _ e; omega
/-- Another map beside the map. -/
def Off (w : World) (g : Nat) (v : Value) (g2 : Nat) (v2 : Value) : Prop := Aside w g v g2 ∧ ∀ q, v2.ownBlock = some q → Aside w g v q
theorem off_on {w w' : World} {g g2 : Nat} {v v' v2 : Value} (h : Hid (Off w g v g2 v2)) (hs : Stays w w' g v v') : Hid (Off w' g v' g2 v2) := ⟨h.out.1.on hs, fun q hq => (h.out.2 q hq).on hs⟩
theorem mapAt_off {B w w' : World} {g g2 : Nat} {v v' v2 : Value} {l2 : List Pr} (h2 : Hid (MapAt B w g2 v2 l2)) (ho : Hid (Off w g v g2 v2)) (hs : Stays w w' g v v') (hb : Below B.heap.size B w') : Hid (MapAt B w' g2 v2 l2) :=
  ⟨h2.out.o.other hs.1 ho.out.1.2.1 ho.out.1.2.2 (fun q hq => ⟨(ho.out.2 q hq).2.1, (ho.out.2 q hq).2.2⟩), hb⟩
theorem off_symm {B w : World} {g g2 : Nat} {v v2 : Value} {l : List Pr} (hm : Hid (MapAt B w g v l)) (h : Hid (Off w g v g2 v2)) : Hid (Off w g2 v2 g v) := by
  obtain ⟨h1, h2⟩ := h.out
  refine ⟨⟨hm.out.o.blk.lt, Ne.symm h1.2.1, fun e => (h2 g e).2.1 rfl⟩, fun q hq => ⟨(hm.out.o.own.lt q hq).2, fun e => h1.2.2 (by rw [← e]; exact hq), fun e => (h2 q e).2.2 hq⟩⟩
theorem IsO.base {w : World} {b B g : Nat} {v : Value} {l : List Pr} (h : IsO w b g v l) (hB : B ≤ b) : IsO w B g v l := ⟨Nat.le_trans hB h.lo, h.blk, own_base h.own hB, h.srt, h.len⟩
/-- A map that is made now lies beside the map. -/
theorem off_new {B w w' : World} {g g2 : Nat} {v v2 : Value} {l l2 : List Pr} (h : MapAt B w g v l) (h2 : IsO w' w.heap.size g2 v2 l2) : Hid (Off w' g v g2 v2) :=
  ⟨aside_new h h2.lo h2.blk.lt, fun q hq => aside_new h (h2.row_lo q hq) (h2.own.lt q hq).2⟩
theorem mapAt_new {B w w' : World} {g : Nat} {v : Value} {l : List Pr} (hb : Below B.heap.size B w) (h : IsO w' w.heap.size g v l) (hb2 : Below w.heap.size w w') : MapAt B w' g v l := ⟨h.base hb.size, hb.trans (hb2.mono hb.size)⟩
end Go.Proofs.Ytfghkmhabpagkaa
