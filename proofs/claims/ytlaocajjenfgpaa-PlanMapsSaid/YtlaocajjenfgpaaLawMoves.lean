/- The law PlanMoves, walked. -/
import Derived.Test.YtlaocajjenfgpaaRMoveW
import Derived.Test.YtlaocajjenfgpaaSame
import Derived.Test.YtlaocajjenfgpaaOpenS
namespace Go.Proofs.Ytlaocajjenfgpaa
open Go Go.RowKit
set_option linter.unusedVariables false

theorem mvIn_len (lo hi : Int) (t : Pr) (f : List Pr → List Chg) (N : Nat) (hf : ∀ ps, (f ps).length ≤ N + ps.length) : ∀ ps, (mvIn lo hi t f ps).length ≤ N + 1 + ps.length
  | [] => by
    have := hf []
    simp [mvIn] at this ⊢
    omega
  | p :: ps => by
    rw [mvIn_cons]
    have h1 := mvIn_len lo hi t f N hf ps
    have h2 := hf ps
    have h3 := hf (p :: ps)
    split
    · split <;> simp <;> omega
    · split <;> simp at h3 ⊢ <;> omega
theorem mv_len (lo hi : Int) : ∀ ts ps, (mv lo hi ts ps).length ≤ ts.length + ps.length
  | [], ps => by
    have := inR_le lo hi ps
    simp [mv, dels]
    omega
  | t :: ts, ps => by
    have := mvIn_len lo hi t (mv lo hi ts) ts.length (fun ps => mv_len lo hi ts ps) ps
    simp
    exact this
theorem outM_len (lo hi by_ : Int) (ps : List Pr) : (outM lo hi by_ ps).1.length ≤ 2 * ps.length := by
  unfold outM
  have h1 := mv_len lo hi ((inR lo hi ps).map (shP by_)) ps
  have h2 := inR_le lo hi ps
  rw [List.length_map] at h1
  split
  · split
    · simp
    · split
      · simp
      · split
        · simp
        · simp; omega
  · simp
theorem outD_len (lo hi : Int) (ps : List Pr) : (outD lo hi ps).1.length ≤ ps.length := by
  unfold outD
  have h2 := inR_le lo hi ps
  split
  · split
    · simp
    · rw [dels_len]; exact h2
  · simp

set_option maxRecDepth 100000 in
set_option maxHeartbeats 2000000 in
theorem moves_law (a0 : Option Addr) (len0 cap0 : Nat) (ps : List Pr) (lo hi by_ : Int) (w : World) (h0 : IsPairs w a0 len0 cap0 ps) (wlo : (Lit.int .u64 lo).wf = true) (whi : (Lit.int .u64 hi).wf = true) (wby : (Lit.int .u64 by_).wf = true) :
    Calls Try.prog 3 #[.slice a0 len0 cap0, .agg #[.int .u64 lo, .int .u64 hi], .int .u64 by_] w fun e w' => e = .returned (.bool true) ∧ Below w.heap.size w w' := by
  obtain ⟨i0, hi0, hz0, hz1, hz2⟩ := info_parts infoPair
  have hr : Hid (Reads w w.heap.size 2 a0 len0 (prs ps)) := h0.reads
  have hm0 : len0 ≤ cap0 ∧ cap0 ≤ 9223372036854775807 := by have h1 := h0.le; have h2 := h0.cap; unfold maxLen at h2; omega
  obtain ⟨hm0, hm0'⟩ := hm0
  have hl0 := Lib.hid (prs_n hr.out)
  have hW := Lib.hid h0.wf
  have hWF := Lib.hid (And.intro whi (And.intro wby wlo))
  clear h0 wlo whi wby
  by_cases hbig : 60 < len0
  · have hd : decide ((60 : Int) < (len0 : Int)) = true := by simp; omega
    go_enter Try.func3, Try.ntmps3
    go_wp2_with fail
    refine (known_any _).mono ?_
    rintro e w1 ⟨rfl, hb⟩
    have hb1 : Hid (Below w.heap.size w w1) := ((Below.refl _ _).alloc (Nat.le_refl _) _).trans (hb.mono (by simp))
    clear hb
    go_wp2_with fail
    go_ret
    exact ⟨rfl, hb1.out⟩
  · have hd : decide ((60 : Int) < (len0 : Int)) = false := by simp; omega
    go_enter Try.func3, Try.ntmps3
    have hg0 := Blk.new w 25 #[.int .u64 lo, .int .u64 hi]
    go_wp2_with (
      at_builtin
      refine wpList_append_any _ rfl (.tmp 20) (.tmp 21) 22 rfl (w.heap.size + 1) 47 i0 _ 2 16 Try.underlying22 hi0 hz0 hz1 hz2 rfl (by decide) (.slice (some ⟨w.heap.size + 1, 0, none⟩) 0 0) 0 [] rfl (own_lit (w.alloc _) #[] 0 _ (by simp) (by simp) (Nat.zero_le _) rfl) w.heap.size a0 len0 cap0 (prs ps) rfl ((hr.out.alloc (Nat.le_refl _) _).alloc (by simp) _) (prs_one _) (by unfold maxLen; omega) (by omega) (by simp) ?_
      intro v1 w1 hown1 hg1 hat1
      rw [Nat.zero_add, List.nil_append] at hown1
      obtain ⟨x, cx, rfl, hcx, hcx'⟩ := own_form hown1
      unfold maxLen at hcx'
      have hb1 : Hid (Below w.heap.size w w1) := (((Below.refl _ _).alloc (Nat.le_refl _) _).alloc (by simp) _).grown hg1 (by simp; omega) (fun q hq => by simp [Value.ownBlock] at hq; omega)
      have hB1 : Hid (Blk w1 w.heap.size 25 #[.int .u64 lo, .int .u64 hi]) := (hg0.alloc _).grown hg1 (by simp [Value.ownBlock])
      have hx1 : Hid (Reads w1 w1.heap.size 2 x len0 (prs ps)) := Reads.of_own hown1
      have L0 := hB1.out.cell 0
      have L1 := hB1.out.cell 1
      simp at L0 L1
      have hl1 := hB1.out.lt
      clear hg0 hown1 hg1 hat1)
    refine (move_any ps x len0 cx lo hi by_ w1 hx1 (by omega) hWF.out.2.2 hWF.out.1 hWF.out.2.1).mono ?_
    rintro e w2 ⟨A2, c2, rfl, ho2, hb⟩
    have hb2 := below_on hb1 hb
    have hx2 := reads_on hx1 hb
    have hB2 := Lib.hid (hB1.out.below hb hl1)
    have hml := outM_len lo hi by_ ps
    rw [hl0.out] at hml
    obtain ⟨r, hrr⟩ : ∃ r, (outM lo hi by_ ps).1 = r := ⟨_, rfl⟩
    obtain ⟨E, hE⟩ : ∃ E, (outM lo hi by_ ps).2 = E := ⟨_, rfl⟩
    have hRE : Hid (outM lo hi by_ ps = (r, E)) := by rw [← hrr, ← hE]; exact rfl
    rw [hrr] at ho2 hml ⊢
    rw [hE]
    clear hrr hE
    obtain ⟨nr, hnr⟩ : ∃ n, r.length = n := ⟨_, rfl⟩
    rw [hnr] at ho2 hml ⊢
    have hNR := Lib.hid hnr
    have hra := (own_reads ho2).1
    have M0 := hB2.out.cell 0
    have M1 := hB2.out.cell 1
    simp at M0 M1
    have hl2 := hB2.out.lt
    clear hb ho2 hnr hb1 hx1 hB1 L0 L1 hl1
    go_wp2_with fail
    refine (rmove_any ps a0 len0 cap0 lo hi by_ w2 (reads_on hr hb2.out) (by omega) hW.out hWF.out.1 hWF.out.2.1 ⟨hm0, hm0'⟩).mono ?_
    rw [hRE.out]
    rintro e w3 ⟨A3, c3, rfl, ho3, hb⟩
    dsimp only at ho3 ⊢
    rw [hNR.out] at ho3 ⊢
    have hb3 := below_on hb2 hb
    have hx3 := reads_on hx2 hb
    have hra3 := reads_on hra hb
    have hrb3 := (own_reads ho3).1
    have hB3 := Lib.hid (hB2.out.below hb hl2)
    have L0 := hB3.out.cell 0
    have L1 := hB3.out.cell 1
    simp at L0 L1
    have hl3 := hB3.out.lt
    clear hb ho3 hb2 hx2 hra hB2 M0 M1 hl2
    go_wp2_with fail
    refine (delete_any ps x len0 cx lo hi w3 hx3 (by omega)).mono ?_
    rintro e w4 h
    obtain ⟨A4, c4, rfl, ho4, hb⟩ := delOut h
    have hb4 := below_on hb3 hb
    have hx4 := reads_on hx3 hb
    have hra4 := reads_on hra3 hb
    have hrb4 := reads_on hrb3 hb
    have hB4 := Lib.hid (hB3.out.below hb hl3)
    have hdl := outD_len lo hi ps
    rw [hl0.out] at hdl
    obtain ⟨s, hss⟩ : ∃ r, (outD lo hi ps).1 = r := ⟨_, rfl⟩
    obtain ⟨F, hF⟩ : ∃ E, (outD lo hi ps).2 = E := ⟨_, rfl⟩
    have hSF : Hid (outD lo hi ps = (s, F)) := by rw [← hss, ← hF]; exact rfl
    rw [hss] at ho4 hdl ⊢
    rw [hF]
    clear hss hF
    obtain ⟨ns, hns⟩ : ∃ n, s.length = n := ⟨_, rfl⟩
    rw [hns] at ho4 hdl ⊢
    have hNS := Lib.hid hns
    have hrc4 := (own_reads ho4).1
    have M0 := hB4.out.cell 0
    have M1 := hB4.out.cell 1
    simp at M0 M1
    have hl4 := hB4.out.lt
    clear hb ho4 hns hb3 hx3 hra3 hrb3 hB3 L0 L1 hl3 h
    go_wp2_with fail
    refine (rdelete_any ps a0 len0 cap0 lo hi w4 (reads_on hr hb4.out) (by omega) ⟨hm0, hm0'⟩).mono ?_
    rw [hSF.out]
    rintro e w5 ⟨A5, c5, rfl, ho5, hb⟩
    dsimp only at ho5 ⊢
    rw [hNS.out] at ho5 ⊢
    have hb5 := below_on hb4 hb
    have hx5 := reads_on hx4 hb
    have hra5 := reads_on hra4 hb
    have hrb5 := reads_on hrb4 hb
    have hrc5 := reads_on hrc4 hb
    have hrd5 := (own_reads ho5).1
    have e1 : (E == E) = true := by simp
    have e2 : (F == F) = true := by simp
    clear hb ho5 hb4 hx4 hra4 hrb4 hrc4 hB4 M0 M1 hl4
    go_wp2_with fail
    refine (sameC r A2 A3 nr nr c2 c3 w5 hra5 hrb5 (by omega)).mono ?_
    rintro e w6 ⟨rfl, hb⟩
    have hb6 := below_on hb5 hb
    have hx6 := reads_on hx5 hb
    have hrc6 := reads_on hrc5 hb
    have hrd6 := reads_on hrd5 hb
    clear hb hb5 hx5 hra5 hrb5 hrc5 hrd5
    go_wp2_with fail
    refine (sameC s A4 A5 ns ns c4 c5 w6 hrc6 hrd6 (by omega)).mono ?_
    rintro e w7 ⟨rfl, hb⟩
    have hb7 := below_on hb6 hb
    have hx7 := reads_on hx6 hb
    clear hb hb6 hx6 hrc6 hrd6
    go_wp2_with fail
    refine (sameP ps x a0 len0 len0 cx cap0 w7 hx7 (reads_on hr hb7.out) (by omega)).mono ?_
    rintro e w8 ⟨rfl, hb⟩
    have hb8 := below_on hb7 hb
    clear hb
    go_wp2_with fail
    go_ret
    exact ⟨by simp, hb8.out⟩
end Go.Proofs.Ytlaocajjenfgpaa
