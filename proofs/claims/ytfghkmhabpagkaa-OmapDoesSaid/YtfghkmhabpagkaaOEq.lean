/- The program's map, walked: Len, Equal; Get in a law's form. -/
import Derived.Test.YtfghkmhabpagkaaSt
import Derived.StillTailTactics
namespace Go.Proofs.Ytfghkmhabpagkaa
open Go Go.RowKit
set_option linter.unusedVariables false

theorem getM {B : World} {g : Nat} {v : Value} {l : List Pr} (key : Int) (w : World) (h : Hid (MapAt B w g v l)) :
    Calls Try.prog 17 #[.pointer (some ⟨g, 0, none⟩), .int .u64 key] w (GetO l key w) := getO_any l g key w (Lib.hid h.out.o.q) (Lib.hid h.out.o.srt)
theorem lenM {B : World} {g : Nat} {v : Value} {l : List Pr} (w : World) (h : Hid (MapAt B w g v l)) :
    Calls Try.prog 18 #[.pointer (some ⟨g, 0, none⟩)] w fun e w' => e = .returned (.int .i64 l.length) ∧ Below w.heap.size w w' := by
  obtain ⟨A, n, c, hB, hr, hn, hnc, hc⟩ := h.out.o.q
  obtain rfl := prs_n hr
  have hg : w.cell? ⟨g, 0, none⟩ = some (.slice A l.length c) := by simpa using hB.cell 0
  clear hr h hB
  go_enter Try.func18, Try.ntmps18
  go_wp2_with fail
  go_ret
  exact ⟨rfl, Below.refl _ _⟩
theorem pairsM {B : World} {g : Nat} {v : Value} {l : List Pr} (w : World) (h : Hid (MapAt B w g v l)) :
    Calls Try.prog 13 #[.pointer (some ⟨g, 0, none⟩)] w (CloneEnd l l.length w) := pairsO_any l g w (Lib.hid h.out.o.q)
theorem copyM {B : World} {g : Nat} {v : Value} {l : List Pr} (w : World) (h : Hid (MapAt B w g v l)) :
    Calls Try.prog 25 #[.pointer (some ⟨g, 0, none⟩)] w fun e w' => ∃ g' v', e = .returned (.pointer (some ⟨g', 0, none⟩)) ∧ IsO w' w.heap.size g' v' l ∧ Below w.heap.size w w' :=
  copyO_any l g w (Lib.hid h.out.o.q) (Lib.hid h.out.o.srt) h.out.o.len
theorem delRM {B : World} {g : Nat} {v : Value} {l : List Pr} (lo hi : Int) (w : World) (h : Hid (MapAt B w g v l)) (hlh : lo ≤ hi) :
    Calls Try.prog 27 #[.pointer (some ⟨g, 0, none⟩), .agg #[.int .u64 lo, .int .u64 hi]] w fun e w' => e = .returned (.tuple #[.int .i64 (inR lo hi l).length, .int .i64 0]) ∧ ∃ v', MapAt B w' g v' (outR lo hi l) ∧ Stays w w' g v v' :=
  (delRO_ok l B.heap.size g v lo hi w (Lib.hid h.out.o) hlh).mono fun e w' ⟨h1, h2⟩ => ⟨h1, h.out.ends h2⟩
theorem moveM {B : World} {g : Nat} {v : Value} {l : List Pr} (lo hi by_ : Int) (w : World) (h : Hid (MapAt B w g v l)) (hl : l.length ≤ 400000) (hlh : lo ≤ hi) (h0 : by_ ≠ 0) (h2 : ¬ 18446744073709551615 - hi < by_)
    (hw : ∀ p ∈ l, (Lit.int .u64 p.key).wf = true) (whi : (Lit.int .u64 hi).wf = true) (wby : (Lit.int .u64 by_).wf = true) :
    Calls Try.prog 14 #[.pointer (some ⟨g, 0, none⟩), .agg #[.int .u64 lo, .int .u64 hi], .int .u64 by_] w fun e w' => e = .returned (.tuple #[.int .i64 (inR lo hi l).length, .int .i64 0]) ∧ ∃ v', MapAt B w' g v' (moved lo hi by_ l) ∧ Stays w w' g v v' :=
  (moveO_ok l B.heap.size g v lo hi by_ w (Lib.hid h.out.o) hl hlh h0 h2 hw whi wby).mono fun e w' ⟨h1, h2⟩ => ⟨h1, h.out.ends h2⟩
end Go.Proofs.Ytfghkmhabpagkaa
