/- The reference's Move and Delete, walked. -/
import Derived.Test.YtlaocajjenfgpaaBtw
import Derived.Test.YtlaocajjenfgpaaMoveW
import Derived.Test.YtlaocajjenfgpaaLawUndo
namespace Go.Proofs.Ytlaocajjenfgpaa
open Go Go.RowKit
set_option linter.unusedVariables false

def keysP (l : List Pr) : List Int := l.map Pr.key
theorem keysP_len (l : List Pr) : (keysP l).length = l.length := List.length_map ..
theorem inc_keysP {l : List Pr} (h : Srt Pr.key l) : Inc (keysP l) := List.pairwise_map.2 h
theorem mem_keysP {l : List Pr} {k : Int} : k ∈ keysP l ↔ look Pr.key l k ≠ none := by
  unfold keysP
  rw [List.mem_map, Ne, look_none]
  constructor
  · rintro ⟨c, hc, rfl⟩ h
    exact h c hc rfl
  · intro h
    apply Classical.byContradiction
    intro hn
    exact h fun c hc he => hn ⟨c, hc, he⟩
theorem mem_keys_in {lo hi : Int} {l : List Pr} {k : Int} : k ∈ keysP (inR lo hi l) ↔ inB lo hi k = true ∧ look Pr.key l k ≠ none := by
  rw [mem_keysP, look_in]
  rcases inB lo hi k with _ | _ <;> simp
/-- THE REFERENCE's MOVE IS THE PROGRAM's. -/
theorem rmove_mv {lo hi by_ : Int} {ps : List Pr} (h : Asc ps) : btw ps (moved lo hi by_ ps) (mrg (keysP (inR lo hi ps)) (keysP ((inR lo hi ps).map (shP by_)))) = mv lo hi ((inR lo hi ps).map (shP by_)) ps := by
  have hs := srt_sh by_ (srt_in (lo := lo) (hi := hi) h)
  obtain ⟨h1, h2⟩ := mrg_spec (keysP (inR lo hi ps)) (keysP ((inR lo hi ps).map (shP by_))) (inc_keysP (srt_in h)) (inc_keysP hs)
  refine mvSpec_unique (btw_spec h1 (fun k => ?_) (moved_spec lo hi by_ h).2) (mv_spec lo hi _ ps hs h)
  rw [h2, mem_keys_in, mem_keysP]
theorem rdel_dels {lo hi : Int} {ps : List Pr} (h : Asc ps) : btw ps (outR lo hi ps) (keysP (inR lo hi ps)) = dels (inR lo hi ps) := by
  refine mvSpec_unique (ts := []) (btw_spec (inc_keysP (srt_in h)) (fun k => ?_) (fun k => ?_)) (mv_nil_spec lo hi ps h)
  · rw [mem_keys_in, look_nil]
    simp
  · rw [look_out]
    rfl
theorem keysIn_yes {lo hi : Int} {l : List Pr} {k : Nat} {p : Pr} (h : l[k]? = some p) (hb : inB lo hi p.key = true) : keysP (inR lo hi (l.take (k + 1))) = keysP (inR lo hi (l.take k)) ++ [p.key] := by
  rw [inR_yes h hb]
  simp [keysP]
theorem keysSh_yes {lo hi by_ : Int} {l : List Pr} {k : Nat} {p : Pr} (h : l[k]? = some p) (hb : inB lo hi p.key = true) : keysP ((inR lo hi (l.take (k + 1))).map (shP by_)) = keysP ((inR lo hi (l.take k)).map (shP by_)) ++ [p.key + by_] := by
  rw [inR_yes h hb]
  simp [keysP, shP]

/-- The changes of a deletion, and its error. -/
noncomputable def outD (lo hi : Int) (ps : List Pr) : List Chg × Int :=
  open Classical in
  if Asc ps then (if hi < lo then ([], 13) else (dels (inR lo hi ps), 0)) else ([], 2)
theorem outD_no {lo hi : Int} {ps : List Pr} (h : ¬ Asc ps) : outD lo hi ps = ([], 2) := by unfold outD; rw [if_neg h]
theorem outD_bad {lo hi : Int} {ps : List Pr} (h : Asc ps) (h1 : hi < lo) : outD lo hi ps = ([], 13) := by unfold outD; rw [if_pos h, if_pos h1]
theorem outD_ok {lo hi : Int} {ps : List Pr} (h : Asc ps) (h1 : ¬ hi < lo) : outD lo hi ps = (dels (inR lo hi ps), 0) := by unfold outD; rw [if_pos h, if_neg h1]
theorem dels_len (l : List Pr) : (dels l).length = l.length := List.length_map ..
theorem delOut {l : List Pr} {lo hi : Int} {w : World} {e : Ending} {w' : World} (h : DelEnd l lo hi w e w') : ChgEnd (outD lo hi l) w e w' := by
  obtain ⟨h1, h2, h3, hb⟩ := h
  by_cases hp : Asc l
  · by_cases hlh : hi < lo
    · rw [outD_bad hp hlh, h2 hp hlh]
      exact chgEnd_nil hb
    · rw [outD_ok hp hlh]
      obtain ⟨A, c, he, ho⟩ := h3 hp (by omega)
      refine ⟨A, c, ?_, ?_, hb⟩
      · rw [he, dels_len]
      · show w'.ownsRow w.heap.size 37 5 (.slice A (dels (inR lo hi l)).length c) (dels (inR lo hi l)).length (chs (dels (inR lo hi l)))
        rw [dels_len]
        exact ho
  · rw [outD_no hp, h1 hp]
    exact chgEnd_nil hb
end Go.Proofs.Ytlaocajjenfgpaa
