/- The program's map, walked: Range and Next. -/
import Derived.Test.YtfghkmhabpagkaaOEq
namespace Go.Proofs.Ytfghkmhabpagkaa
open Go Go.RowKit
set_option linter.unusedVariables false

/-- What Range returns: new memory. -/
def RngEnd (L : List Pr) (w : World) (e : Ending) (w' : World) : Prop :=
  ∃ A c, e = .returned (.tuple #[.slice A L.length c, .int .i64 0]) ∧ w'.ownsRow w.heap.size 38 2 (.slice A L.length c) L.length (prs L) ∧ Below w.heap.size w w'
set_option maxHeartbeats 4000000 in
theorem rngM {B : World} {g : Nat} {v : Value} {l : List Pr} (lo hi : Int) (w : World) (h : Hid (MapAt B w g v l)) (hl : l.length ≤ 400000) (hlh : lo ≤ hi) :
    Calls Try.prog 19 #[.pointer (some ⟨g, 0, none⟩), .agg #[.int .u64 lo, .int .u64 hi]] w (RngEnd (inR lo hi l) w) := by
  have hb0 : Below w.heap.size w (w.alloc (.cells #[.int .u64 lo, .int .u64 hi] 25)) := (Below.refl _ _).alloc (Nat.le_refl _) _
  have hc := ends_ok l g lo hi (w.alloc (.cells #[.int .u64 lo, .int .u64 hi] 25)) (Lib.hid (h.out.o.below hb0).q) (Lib.hid h.out.o.srt) hlh
  obtain ⟨ms, hms⟩ : ∃ ms, inR lo hi l = ms := ⟨_, rfl⟩
  rw [hms]
  go_enter Try.func19, Try.ntmps19
  go_wp2_with fail
  refine hc.mono ?_
  rintro e w1 ⟨a, T, rfl, hE, hb⟩
  have hb1 : Below w.heap.size w w1 := hb0.trans (hb.mono (by simp))
  have ho1 := h.out.o.below hb1
  obtain ⟨A, c, rfl, hnc, hcm⟩ := own_form ho1.own
  have hg : w1.cell? ⟨g, 0, none⟩ = some (.slice A l.length c) := by simpa using ho1.blk.cell 0
  have hin := inR_len_of hE
  have hms' := hE.2.2.1
  rw [hms] at hin hms'
  have hcl : Hid (∀ A' n' c', n' = ms.length → Reads w1 w1.heap.size 2 A' n' (prs ms) → Calls Try.prog 34 #[.slice A' n' c'] w1 (CloneEnd ms ms.length w1)) :=
    Lib.hid (fun A' n' c' hn hr => hn ▸ clone_any ms A' n' c' w1 (Lib.hid hr) (by have := hE.2.1; omega))
  have hread : Hid (∀ b, A = some ⟨b, 0, none⟩ → Reads w1 w1.heap.size 2 (some ⟨b, a * 2, none⟩) (T - a) (prs ms)) := Lib.hid (fun b hA => by
    refine ⟨by rw [prs_len, hin], fun hpos => ?_⟩
    obtain ⟨g', cur, hA', hbg, hBB, _, _, hsz, htk⟩ := own_open ho1.own (by have := hE.2.1; omega)
    rw [hA] at hA'
    have hA' := Option.some.inj hA'
    injection hA' with e1 _ _
    subst e1
    refine ⟨_, rfl, hBB.lt, fun j u hu => ?_⟩
    refine cells_from hBB htk rfl a j u ?_
    rw [← hms', ← prs_take, List.getElem?_take] at hu
    split at hu
    · exact hu
    · cases hu)
  have haT := hE.1
  have hTn := hE.2.1
  have hT9 : T ≤ 900000 := by have := ho1.len; omega
  have hc63 : c ≤ 9223372036854775807 := by unfold maxLen at hcm; omega
  have hbH := Lib.hid hb1
  have hnil : A = none → l.length = 0 := fun e => by
    rcases Nat.eq_zero_or_pos l.length with h | h
    · exact h
    · obtain ⟨_, _, e2, _⟩ := own_open ho1.own h
      rw [e] at e2
      cases e2
  have hsome : ∀ b, A = some b → b = ⟨b.block, 0, none⟩ := fun b e => by
    rcases ho1.own.2 with ⟨e2, _⟩ | ⟨g', cap, cur, e2, _⟩
    · injection e2 with e3
      rw [e] at e3
      cases e3
    · injection e2 with e3
      rw [e] at e3
      rw [Option.some.inj e3]
  obtain ⟨n, hn⟩ : ∃ n, n = l.length := ⟨_, rfl⟩
  rw [← hn] at hg hl hnc hTn hnil
  have hI : Hid (ms.length = T - a) := hin
  clear hc ho1 hb hb1 hE hcm hb0 hms hms' hin h
  have e6 : (a : Int) ≤ (T : Int) := by omega
  have e7 : (T : Int) ≤ (n : Int) := by omega
  have e8 : T ≤ c := by omega
  have ez : (0 : Int) ≤ (a : Int) := by omega
  rcases A with _ | ⟨ab, ao, ap⟩
  · have hn0 := hnil rfl
    have hm0 : ms = [] := List.eq_nil_of_length_eq_zero (by rw [hI.out]; omega)
    have hz : Reads w1 w1.heap.size 2 none (T - a) (prs ms) := by
      rw [show T - a = 0 by omega, hm0]
      exact reads_zero none
    have hz := Lib.hid hz
    clear hsome hnil hn0 hread hm0
    go_wp2_with fail
    refine (hcl.out _ _ _ (by rw [hI.out]) hz.out).mono ?_
    clear hz
    rintro e w2 ⟨X, cx, rfl, hown2, hb2⟩
    have hr2 := Lib.hid (own_base hown2 hbH.out.size)
    have hb3 := Lib.hid (hbH.out.trans (hb2.mono hbH.out.size))
    clear hown2 hb2 hcl
    generalize hL : ms.length = L at *
    go_wp2_with fail
    go_ret2
    exact ⟨X, cx, by rw [hL]; rfl, by rw [hL]; exact hr2.out, hb3.out⟩
  · have hs := hsome _ rfl
    injection hs with _ hs1' hs2'
    subst hs1' hs2'
    clear hsome hnil
    by_cases hca : c = a
    · have hm0 : ms = [] := List.eq_nil_of_length_eq_zero (by rw [hI.out]; omega)
      have hz : ∀ n', n' = 0 → Reads w1 w1.heap.size 2 (some ⟨ab, 0, none⟩) n' (prs ms) := fun n' h => by
        rw [h, hm0]
        exact reads_zero _
      have hz := Lib.hid hz
      have hI0 := Lib.hid (show ms.length = 0 by rw [hm0]; rfl)
      clear hm0
      subst hca
      have h1 : c = T := by omega
      subst h1
      have e9 : (c : Int) ≤ (c : Int) := Int.le_refl _
      go_wp2_with fail
      refine (hcl.out _ _ _ (by rw [hI0.out]; try omega) (hz.out _ (by omega))).mono ?_
      clear hI0
      clear hz
      rintro e w2 ⟨X, cx, rfl, hown2, hb2⟩
      have hr2 := Lib.hid (own_base hown2 hbH.out.size)
      have hb3 := Lib.hid (hbH.out.trans (hb2.mono hbH.out.size))
      clear hown2 hb2 hcl hread
      generalize hL : ms.length = L at *
      go_wp2_with fail
      go_ret2
      exact ⟨X, cx, by rw [hL]; rfl, by rw [hL]; exact hr2.out, hb3.out⟩
    · go_wp2_with fail
      refine (hcl.out _ _ _ (by rw [hI.out]) (hread.out _ rfl)).mono ?_
      rintro e w2 ⟨X, cx, rfl, hown2, hb2⟩
      have hr2 := Lib.hid (own_base hown2 hbH.out.size)
      have hb3 := Lib.hid (hbH.out.trans (hb2.mono hbH.out.size))
      clear hown2 hb2 hcl hread
      generalize hL : ms.length = L at *
      go_wp2_with fail
      go_ret2
      exact ⟨X, cx, by rw [hL]; rfl, by rw [hL]; exact hr2.out, hb3.out⟩
theorem rng_no (g : Nat) (lo hi : Int) (w : World) (h : hi < lo) :
    Calls Try.prog 19 #[.pointer (some ⟨g, 0, none⟩), .agg #[.int .u64 lo, .int .u64 hi]] w fun e w' => e = .returned (.tuple #[.slice none 0 0, .int .i64 13]) ∧ Below w.heap.size w w' := by
  have hb0 : Hid (Below w.heap.size w (w.alloc (.cells #[.int .u64 lo, .int .u64 hi] 25))) := (Below.refl _ _).alloc (Nat.le_refl _) _
  have hc := ends_no g lo hi (w.alloc (.cells #[.int .u64 lo, .int .u64 hi] 25)) h
  go_enter Try.func19, Try.ntmps19
  go_wp2_with fail
  refine hc.mono ?_
  rintro e w1 ⟨rfl, hb⟩
  have hb1 := below_on hb0 hb
  clear hc hb hb0
  go_wp2_with fail
  go_ret2
  exact ⟨rfl, hb1.out⟩
end Go.Proofs.Ytfghkmhabpagkaa
