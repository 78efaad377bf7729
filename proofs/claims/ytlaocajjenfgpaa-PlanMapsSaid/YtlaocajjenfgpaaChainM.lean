/- Plans one behind the other: what Then makes of plans that follow each other. Plain Lean. -/
import Derived.Test.YtlaocajjenfgpaaMoveM
namespace Go.Proofs.Ytlaocajjenfgpaa
open Go

/-- A plan leads from pairs to pairs. -/
structure Leads (ps : List Pr) (l : List Chg) (q : List Pr) : Prop where
  src : Srt Pr.key ps
  plan : Plan l
  app : app l ps = some q
theorem Leads.dst {ps q : List Pr} {l : List Chg} (h : Leads ps l q) : Srt Pr.key q := (app_some h.plan h.src h.app).1
theorem Leads.at_ {ps q : List Pr} {l : List Chg} (h : Leads ps l q) (k : Int) : look Pr.key q k = after ps l k := (app_some h.plan h.src h.app).2.1 k
theorem Leads.fits {ps q : List Pr} {l : List Chg} (h : Leads ps l q) : Fits ps l := (app_some h.plan h.src h.app).2.2
theorem Leads.good {ps q : List Pr} {l : List Chg} (h : Leads ps l q) {k : Int} {c : Chg} (hk : look Chg.key l k = some c) : GoodC c ∧ c.key = k ∧ FitsAt (look Pr.key ps k) c := by
  obtain ⟨hm, rfl⟩ := look_some hk
  exact ⟨(plan_iff.1 h.plan).1 c hm, rfl, h.fits c hm⟩
theorem Leads.srt {ps q : List Pr} {l : List Chg} (h : Leads ps l q) : Srt Chg.key l := (plan_iff.1 h.plan).2
theorem Leads.of_mv {lo hi : Int} {ts ps : List Pr} {r : List Chg} (hp : Srt Pr.key ps) (h : MvSpec lo hi ts ps r) : ∃ q, Leads ps r q := by
  obtain ⟨h1, h2⟩ := mv_plan h
  rcases app_spec h1 hp with ⟨q, hq, _⟩ | ⟨_, hn⟩
  · exact ⟨q, hp, h1, hq⟩
  · exact absurd h2 hn
theorem Leads.nil {ps : List Pr} (hp : Srt Pr.key ps) : Leads ps [] ps := ⟨hp, fun k c h => by simp at h, rfl⟩

theorem meet_of {ps p q : List Pr} {a b : List Chg} (ha : Leads ps a p) (hb : Leads p b q) {k : Int} {c d : Chg} (hc : look Chg.key a k = some c) (hd : look Chg.key b k = some d) : Meet c d := by
  obtain ⟨gc, _, _⟩ := ha.good hc
  obtain ⟨gd, _, fd⟩ := hb.good hd
  rw [ha.at_, after_some hc] at fd
  rcases hi : c.is with _ | _
  · rw [hi] at fd
    refine ⟨by rw [hi]; exact fd.1.symm, ?_⟩
    rcases gc.2.2 with h | h
    · rw [hi] at h; cases h
    · rw [h]; exact fd.2.symm
  · rw [hi] at fd
    exact ⟨by rw [hi]; exact fd.1.symm, fd.2.symm⟩

theorem good_then {c d : Chg} (gc : GoodC c) (gd : GoodC d) (h : (c.was || d.is) = true) : GoodC (joinC c d) := ⟨by simpa [joinC] using h, gc.2.1, gd.2.2⟩

/-- THE JOINED PLAN FITS, AND LEADS WHERE BOTH LEAD. -/
theorem chain {ps p q : List Pr} {a b : List Chg} (ha : Leads ps a p) (hb : Leads p b q) :
    ∃ ab, thn a b = some ab ∧ Leads ps ab q ∧ ∀ k, look Chg.key ab k = thenAt (look Chg.key a k) (look Chg.key b k) := by
  rcases thn_spec a b ha.srt hb.srt with ⟨ab, h1, hs, hl, _⟩ | ⟨_, k, c, d, hc, hd, hn⟩
  · refine ⟨ab, h1, ?_, hl⟩
    have key : ∀ k e, look Chg.key ab k = some e → GoodC e ∧ FitsAt (look Pr.key ps k) e := by
      intro k e he
      rw [hl] at he
      rcases hx : look Chg.key a k with _ | c <;> rcases hy : look Chg.key b k with _ | d <;> rw [hx, hy] at he
      · cases he
      · obtain rfl := Option.some.inj he
        obtain ⟨g, _, f⟩ := hb.good hy
        rw [ha.at_, after_none hx] at f
        exact ⟨g, f⟩
      · obtain rfl := Option.some.inj he
        obtain ⟨g, _, f⟩ := ha.good hx
        exact ⟨g, f⟩
      · rw [thenAt_both] at he
        split at he
        · rename_i hw
          obtain rfl := Option.some.inj he
          obtain ⟨g, _, f⟩ := ha.good hx
          exact ⟨good_then g (hb.good hy).1 hw, f⟩
        · cases he
    have hplan : Plan ab := plan_iff.2 ⟨fun e he => (key e.key e (look_mem hs he)).1, hs⟩
    refine ⟨ha.src, hplan, app_of hplan ha.src hb.dst (fun k => ?_) fun e he => (key e.key e (look_mem hs he)).2⟩
    rw [hb.at_]
    rcases hx : look Chg.key a k with _ | c <;> rcases hy : look Chg.key b k with _ | d
    · rw [after_none hy, ha.at_, after_none hx, after_none (by rw [hl, hx, hy]; rfl)]
    · rw [after_some hy, after_some (c := d) (by rw [hl, hx, hy]; rfl)]
    · rw [after_none hy, ha.at_, after_some hx, after_some (c := c) (by rw [hl, hx, hy]; rfl)]
    · obtain ⟨gc, kc, fc⟩ := ha.good hx
      obtain ⟨gd, kd, _⟩ := hb.good hy
      rw [after_some hy]
      by_cases hw : (c.was || d.is) = true
      · rw [after_some (c := joinC c d) (by rw [hl, hx, hy, thenAt_both, if_pos hw])]
        show _ = if d.is = true then some (⟨c.key, d.new⟩ : Pr) else none
        rw [kc, kd]
      · rw [after_none (by rw [hl, hx, hy, thenAt_both, if_neg hw])]
        have h0 : c.was = false ∧ d.is = false := by simpa using hw
        rw [if_neg (by rw [h0.2]; simp)]
        rcases hp : look Pr.key ps k with _ | u
        · rfl
        · rw [hp] at fc
          have := fc.1
          rw [h0.1] at this
          cases this
  · exact absurd (meet_of ha hb hc hd) hn

theorem thenAt_assoc {x y z : Option Chg} (gx : ∀ c, x = some c → GoodC c) (gy : ∀ c, y = some c → GoodC c) (gz : ∀ c, z = some c → GoodC c)
    (mxy : ∀ c d, x = some c → y = some d → Meet c d ∧ c.key = d.key) (myz : ∀ c d, y = some c → z = some d → Meet c d ∧ c.key = d.key) : thenAt (thenAt x y) z = thenAt x (thenAt y z) := by
  rcases x with _ | c
  · rfl
  rcases y with _ | d
  · rcases z with _ | e <;> rfl
  rcases z with _ | e
  · show thenAt (thenAt (some c) (some d)) none = thenAt (some c) (some d)
    rw [thenAt_both]
    split <;> rfl
  obtain ⟨m1, k1⟩ := mxy c d rfl rfl
  obtain ⟨m2, k2⟩ := myz d e rfl rfl
  have g1 := gx c rfl
  have g2 := gy d rfl
  have g3 := gz e rfl
  obtain ⟨ck, cw, co, ci, cn⟩ := c
  obtain ⟨dk, dw, do_, di, dn⟩ := d
  obtain ⟨ek, ew, eo, ei, en⟩ := e
  simp only [Meet, GoodC] at m1 m2 g1 g2 g3 k1 k2
  obtain ⟨rfl, rfl⟩ := m1
  obtain ⟨rfl, rfl⟩ := m2
  subst k1 k2
  cases cw <;> cases ci <;> cases di <;> cases ei <;> simp [thenAt, joinC] at g1 g2 g3 ⊢ <;> simp_all

/-- FOR THREE IT DOES NOT MATTER WHICH TWO ARE JOINED FIRST. -/
theorem chain3 {ps p q r : List Pr} {a b c : List Chg} (ha : Leads ps a p) (hb : Leads p b q) (hc : Leads q c r) :
    ∃ ab bc l, thn a b = some ab ∧ thn b c = some bc ∧ thn ab c = some l ∧ thn a bc = some l ∧ Leads ps ab q ∧ Leads p bc r ∧ Leads ps l r := by
  obtain ⟨ab, h1, l1, k1⟩ := chain ha hb
  obtain ⟨bc, h2, l2, k2⟩ := chain hb hc
  obtain ⟨x, h3, l3, k3⟩ := chain l1 hc
  obtain ⟨y, h4, l4, k4⟩ := chain ha l2
  have : x = y := by
    refine srt_ext l3.srt l4.srt fun k => ?_
    rw [k3, k4, k1, k2]
    refine thenAt_assoc (fun c h => (ha.good h).1) (fun c h => (hb.good h).1) (fun c h => (hc.good h).1) (fun c d h h' => ⟨meet_of ha hb h h', ?_⟩) (fun c d h h' => ⟨meet_of hb hc h h', ?_⟩)
    · rw [(ha.good h).2.1, (hb.good h').2.1]
    · rw [(hb.good h).2.1, (hc.good h').2.1]
  subst this
  exact ⟨ab, bc, x, h1, h2, h3, h4, l1, l2, l3⟩
end Go.Proofs.Ytlaocajjenfgpaa
