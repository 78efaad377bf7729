/- The law PlanMaps in plain lists. -/
import Derived.Test.YtlaocajjenfgpaaMoveM
import Derived.Test.YtlaocajjenfgpaaChainM
import Derived.IntWalk
import Derived.OpenShut
namespace Go.Proofs.Ytlaocajjenfgpaa
open Go Go.RowKit

def fromC (lo hi : Int) (c : Chg) : Bool := c.was && decide (lo ≤ c.key) && decide (c.key ≤ hi)
def toK (lo hi by_ : Int) (ps : List Pr) (k : Int) : Bool := (look Pr.key ps (IntKind.u64.wrap (k - by_))).isSome && decide (by_ ≤ k) && decide (lo ≤ IntKind.u64.wrap (k - by_)) && decide (IntKind.u64.wrap (k - by_) ≤ hi)

theorem maps_app {lo hi by_ : Int} {ps : List Pr} (h : Srt Pr.key ps) : app (mv lo hi ((inR lo hi ps).map (shP by_)) ps) ps = some (moved lo hi by_ ps) := by
  have hm := mv_spec lo hi ((inR lo hi ps).map (shP by_)) ps (srt_sh by_ (srt_in h)) h
  have hv := moved_spec lo hi by_ h
  refine app_of (mv_plan hm).1 h hv.1 (fun k => ?_) (mv_plan hm).2
  rw [hv.2 k, mv_after hm k]
  rcases look Pr.key ((inR lo hi ps).map (shP by_)) k with _ | t <;> rfl
theorem maps_del {lo hi : Int} {ps : List Pr} (h : Srt Pr.key ps) : Plan (dels (inR lo hi ps)) ∧ app (dels (inR lo hi ps)) ps = some (outR lo hi ps) := by
  have hm := mv_nil_spec lo hi ps h
  refine ⟨(mv_plan hm).1, app_of (mv_plan hm).1 h (srt_out h) (fun k => ?_) (mv_plan hm).2⟩
  rw [look_out, mv_after hm k]
  rfl

section
variable {lo hi by_ : Int} {ps : List Pr}
/-- What a change of the plan of moving is. -/
theorem maps_chg (h : Srt Pr.key ps) {c : Chg} (hc : c ∈ mv lo hi ((inR lo hi ps).map (shP by_)) ps) :
    c.was = (look Pr.key ps c.key).isSome ∧ c.is = (look Pr.key ((inR lo hi ps).map (shP by_)) c.key).isSome ∧ (c.is = false → inB lo hi c.key = true ∧ c.was = true) := by
  have hm := mv_spec lo hi ((inR lo hi ps).map (shP by_)) ps (srt_sh by_ (srt_in h)) h
  have h1 := hm.2 c.key
  rw [look_mem hm.1 hc] at h1
  generalize look Pr.key ((inR lo hi ps).map (shP by_)) c.key = x at h1 ⊢
  generalize look Pr.key ps c.key = y at h1 ⊢
  generalize inB lo hi c.key = b at h1 ⊢
  rcases x with _ | t <;> rcases y with _ | p <;> rcases b with _ | _ <;> simp only [chAt] at h1 <;> cases h1
  all_goals simp [delC]
theorem maps_to (h : Srt Pr.key ps) (hw : ∀ p ∈ ps, (Lit.int .u64 p.key).wf = true) (hlo : 0 ≤ lo) (hhi : hi ≤ 18446744073709551615) (hby : 0 ≤ by_) (h2 : ¬ 18446744073709551615 - hi < by_) {c : Chg} (hc : c ∈ mv lo hi ((inR lo hi ps).map (shP by_)) ps) :
    c.is = toK lo hi by_ ps c.key ∧ 0 ≤ c.key ∧ c.key ≤ 18446744073709551615 := by
  obtain ⟨e1, e2, e3⟩ := maps_chg h hc
  have hk : 0 ≤ c.key ∧ c.key ≤ 18446744073709551615 := by
    rcases hx : look Pr.key ((inR lo hi ps).map (shP by_)) c.key with _ | t
    · have h4 := e3 (by rw [e2, hx]; rfl)
      rw [h4.2] at e1
      rcases hy : look Pr.key ps c.key with _ | p
      · rw [hy] at e1; cases e1
      · obtain ⟨hp, hk⟩ := look_some hy
        have := bounds_u64 (hw p hp)
        omega
    · rw [look_sh] at hx
      obtain ⟨q, hq, e⟩ := Option.map_eq_some_iff.1 hx
      obtain ⟨hq1, hq2⟩ := look_some hq
      have h5 := List.mem_filter.1 hq1
      have h6 : lo ≤ q.key ∧ q.key ≤ hi := by simpa [inB] using h5.2
      omega
  refine ⟨?_, hk⟩
  rw [e2, look_sh, Option.isSome_map, look_in]
  unfold toK
  by_cases hb : by_ ≤ c.key
  · have hwr : IntKind.u64.wrap (c.key - by_) = c.key - by_ := IntWalk.u64_in _ (by omega)
    rw [hwr, decide_eq_true hb]
    rcases look Pr.key ps (c.key - by_) with _ | p
    · simp
    · by_cases h7 : lo ≤ c.key - by_ <;> by_cases h8 : c.key - by_ ≤ hi <;> simp [inB, h7, h8]
  · rw [decide_eq_false hb]
    have : inB lo hi (c.key - by_) = false := by simp [inB]; omega
    rw [this]
    simp
theorem maps_some (h : Srt Pr.key ps) {c : Chg} (hc : c ∈ mv lo hi ((inR lo hi ps).map (shP by_)) ps) : fromC lo hi c = true ∨ c.is = true := by
  obtain ⟨e1, e2, e3⟩ := maps_chg h hc
  rcases hi' : c.is with _ | _
  · have h4 := e3 hi'
    have h5 : lo ≤ c.key ∧ c.key ≤ hi := by simpa [inB] using h4.1
    exact .inl (by simp [fromC, h4.2, h5.1, h5.2])
  · exact .inr rfl
theorem maps_count (h : Srt Pr.key ps) : ((mv lo hi ((inR lo hi ps).map (shP by_)) ps).filter (fromC lo hi)).length = (inR lo hi ps).length := by
  have hm := mv_spec lo hi ((inR lo hi ps).map (shP by_)) ps (srt_sh by_ (srt_in h)) h
  obtain ⟨r, hr⟩ : ∃ r, r = mv lo hi ((inR lo hi ps).map (shP by_)) ps := ⟨_, rfl⟩
  rw [← hr] at hm ⊢
  have hf : r.filter (fromC lo hi) = r.filter (fun c => (look Pr.key ps c.key).isSome && inB lo hi c.key) := by
    refine List.filter_congr fun c hc => ?_
    rw [hr] at hc
    rw [← (maps_chg h hc).1]
    simp [fromC, inB, Bool.and_assoc]
  rw [hf]
  have hmap : (r.filter (fun c => (look Pr.key ps c.key).isSome && inB lo hi c.key)).map (fun c => (⟨c.key, c.old⟩ : Pr)) = inR lo hi ps := by
    refine srt_ext (key := Pr.key) (List.pairwise_map.2 (srt_filter _ hm.1)) (srt_in h) fun k => ?_
    have e1 : ∀ l : List Chg, look Pr.key (l.map (fun c => (⟨c.key, c.old⟩ : Pr))) k = (look Chg.key l k).map (fun c => (⟨c.key, c.old⟩ : Pr)) := by
      intro l
      induction l with
      | nil => rfl
      | cons a l ih =>
        rw [List.map_cons, look_cons, look_cons, ih]
        split <;> rfl
    rw [e1, look_filter (key := Chg.key) _ (fun k => (look Pr.key ps k).isSome && inB lo hi k) (fun _ => rfl), look_in, hm.2 k]
    rcases hp : look Pr.key ps k with _ | p
    · simp
    · have hpk := (look_some hp).2
      rcases hb : inB lo hi k with _ | _
      · simp
      · rcases ht : look Pr.key ((inR lo hi ps).map (shP by_)) k with _ | t
        · simp [chAt, delC]
        · have htk := (look_some ht).2
          simp [chAt]
          rw [htk, ← hpk]
  rw [← hmap, List.length_map]
end
end Go.Proofs.Ytlaocajjenfgpaa
