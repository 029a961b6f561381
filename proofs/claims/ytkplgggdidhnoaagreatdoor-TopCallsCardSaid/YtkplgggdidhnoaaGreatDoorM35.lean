/-
  The plain law behind TopCalls: unit 0 that has the field keeps it; one cycle of it. No condition. The plain law behind TopCalls, second part: the first ten cycles. No condition. The plain law behind TopCalls, third part: a route that is called; its points. No condition. pointsmanref4.Needs: the points that a route needs, in new memory. Condition: the layout may be.
-/
import Derived.Test.YtkplgggdidhnoaaGreatDoorM21
import Derived.Test.YtkplgggdidhnoaaGreatDoorM23
namespace Go.Proofs.YtkplgggdidhnoaaGreatDoor
open Go.ChangeShapes Go.WideShapes Go.ChangeAt Go.RowKit
set_option linter.unusedVariables false

theorem PS.Fold.keepM {R : Ev → PS → PS → Prop} {P : PS → Prop} : ∀ {es : List Ev} {a b : PS}, (∀ e ∈ es, ∀ a b, P a → R e a b → P b) → P a → PS.Fold R es a b → P b
  | [], a, b, _, h, k => by
    have e : b = a := k
    rw [e]; exact h
  | e :: es, a, b, h1, h, ⟨m, k1, k2⟩ => PS.Fold.keepM (fun e' he' => h1 e' (List.mem_cons_of_mem _ he')) (h1 e (List.mem_cons_self ..) a m h k1) k2

/-- Unit 0 has the field, and asked for it in cycle n; unit 1 is a Standby. -/
structure PS.Own0 (n : Int) (ps : PS) : Prop where
  w : ps.u0.mode = 3 ∨ ps.u0.mode = 4
  gr : ps.u0.gr = true
  en : ps.u0.en = ps.u0.tick + 5
  ep : ps.u0.ep = ps.re.epoch
  own : ps.re.own = 0
  asked : ps.re.asked = n
  u1 : ps.u1.mode = 2
  c0 : ps.ln.c0 = []
/-- Its clock goes on, and its lease is renewed. -/
def US.go (u : US) : US := { u with tick := u.tick + 1, en := u.tick + 6 }
theorem works_of {u : US} (h : u.mode = 3 ∨ u.mode = 4) : u.works = true := by
  unfold US.works
  rcases h with h | h <;> simp [h]
theorem hapU_8 {e : Ev} (h : e.kind = 8) (i : Int) (u : US) : hapU e i u = u := by
  unfold hapU
  rw [h]
  split
  · rw [if_neg (by decide), if_neg (by decide)]
  · rfl
theorem any_8 {es : List Ev} (h : ∀ e ∈ es, e.kind = 8) (k i : Int) (hk : k ≠ 8) : es.any (evB k i) = false := by
  rw [List.any_eq_false]
  intro e he
  have h8 := h e he
  unfold evB
  rw [h8]
  have : ((8 : Int) == k) = false := by simpa using fun h => hk h.symm
  simp [this]

theorem own0_upto {n : Int} {es : List Ev} {ps ps4 : PS} (hi : ps.Inv n) (n0 : 1 ≤ n) (n1 : n ≤ 5000) (h : ps.Own0 n) (h8 : ∀ e ∈ es, e.kind = 8) (k : PS.Upto es ps ps4) :
    ps4.u0 = { ps.u0 with tick := ps.u0.tick + 1 } ∧ ps4.u1.mode = 2 ∧ ps4.re = { ps.re with now := n + 1, con := -1 } ∧ ps4.occ = ps.occ ∧ ps4.pts = ps.pts ∧ ps4.now = n + 1 := by
  have hj : ps.J n n (2 * n) := hi
  obtain ⟨ps2, ps3, k1, ⟨x0, x1, r0, r1, e3⟩, k3⟩ := k
  have hre : ps.next.re = { ps.re with now := n + 1, con := -1 } := by
    show ps.re.begin (ps.now + 1) = _
    rw [hj.nw]
    unfold St.begin
    rw [if_neg (by rw [hj.rn]; omega), if_neg (by rw [h.asked]; omega)]
  have a2 : ps2.u0 = ps.u0 ∧ ps2.u1 = ps.u1 ∧ ps2.re = ps.next.re ∧ ps2.ln = ps.ln ∧ ps2.now = n + 1 ∧ ps2.occ = ps.occ ∧ ps2.pts = ps.pts := by
    refine PS.Fold.keepM (P := fun x => x.u0 = ps.u0 ∧ x.u1 = ps.u1 ∧ x.re = ps.next.re ∧ x.ln = ps.ln ∧ x.now = n + 1 ∧ x.occ = ps.occ ∧ x.pts = ps.pts) (fun e he a b ha hb => ?_) (show ps.next.u0 = ps.u0 ∧ ps.next.u1 = ps.u1 ∧ ps.next.re = ps.next.re ∧ ps.next.ln = ps.ln ∧ ps.next.now = n + 1 ∧ ps.next.occ = ps.occ ∧ ps.next.pts = ps.pts from ⟨rfl, rfl, rfl, rfl, by show ps.now + 1 = n + 1; rw [hj.nw], rfl, rfl⟩) k1
    obtain ⟨b0, b1, b2, b3, b4, b5⟩ := hb
    have e8 := h8 e he
    rw [hapU_8 e8] at b0 b1
    obtain ⟨b6, b7⟩ := b5 (by rw [e8]; decide) (by rw [e8]; decide)
    obtain ⟨a0, a1, a2, a3, a4, a5, a6⟩ := ha
    exact ⟨b0.trans a0, b1.trans a1, b2.trans a2, b3.trans a3, b4.trans a4, b6.trans a5, b7.trans a6⟩
  obtain ⟨a0, a1, are, aln, anow, aocc, apts⟩ := a2
  rw [any_8 h8 3 0 (by decide), a0] at r0
  rw [any_8 h8 3 1 (by decide), a1] at r1
  have hc : ps2.ln.came 0 = [] := by rw [aln]; exact h.c0
  have hx0 : x0 = { ps.u0 with tick := ps.u0.tick + 1 } := by
    have e : x0 = ps.u0.tk false := r0.2 hc
    rw [e]
    unfold US.tk
    have hm := h.w
    rw [if_neg (by omega), if_neg (by omega), if_neg]
    · rfl
    · have hl : live ps.u0.en ps.u0.gr (ps.u0.tk0 false).tick = true := by
        have ht : (ps.u0.tk0 false).tick = ps.u0.tick + 1 := rfl
        unfold live
        rw [h.gr, ht, h.en]
        simp
      rw [hl]
      simp
  have hx1 : x1.mode = 2 := by
    have ht : (ps.u1.tk false).mode = 2 := by
      unfold US.tk
      have hm := h.u1
      rw [if_neg (by omega), if_neg (by omega), if_neg]
      · exact hm
      · have : ps.u1.works = false := by unfold US.works; simp [hm]
        rw [this]; simp
    rcases r1.1 with h | ⟨h2, c, r, h⟩
    · rw [h]; exact ht
    · rw [h]; exact ht
  have a4 : ps4 = ps3 := by
    refine PS.Fold.keepM (P := fun x => x = ps3) (fun e he a b ha hb => ?_) rfl k3
    have e8 := h8 e he
    unfold PS.Yl1 at hb
    rw [if_neg (by rw [e8]; omega), if_neg (by rw [e8]; omega)] at hb
    rw [hb, ha]
  rw [a4, e3]
  exact ⟨hx0, hx1, by rw [← hre]; exact are, aocc, apts, anow⟩

theorem ask_own0 {u u' : US} {re re' : St} (hw : u.mode = 3 ∨ u.mode = 4) (hc : 0 ≤ u.count) (hep : u.ep = re.epoch) (hgr : u.gr = true) (ho : re.own = 0) (k : AskRel u re 0 false u' re') :
    u' = { u with en := u.tick + 5 } ∧ re' = { re with con := 0, asked := re.now, last := u.count } := by
  have e : re.ask 0 u.count = ({ re with con := 0, asked := re.now, last := u.count }, re.epoch, re.last, 0) := by
    unfold St.ask
    rw [if_neg (by omega), if_pos ho]
  rcases k with ⟨h, _⟩ | ⟨_, _, hre, k⟩
  · rcases h with h | h
    · exact absurd h (by decide)
    · omega
  · rw [e] at hre k
    refine ⟨?_, hre⟩
    rcases k with ⟨_, k⟩ | ⟨k, _⟩
    · rcases k with ⟨_, _, rfl⟩ | ⟨h, _⟩ | ⟨h, _⟩
      · show ({ u with ep := re.epoch, en := u.tick + 8 - 3, gr := true } : US) = _
        rw [← hep, ← hgr]
        have : u.tick + 8 - 3 = u.tick + 5 := by omega
        rw [this]
      · rcases h with ⟨_, h⟩ | h
        · exact absurd hep h
        · omega
      · rw [works_of hw] at h; cases h
    · exact absurd rfl k
theorem ask_busy {u u' : US} {re re' : St} (ho : re.own = 0) (k : AskRel u re 1 false u' re') : u' = u ∧ re' = re := by
  have e : (re.ask 1 u.count).1 = re ∧ (re.ask 1 u.count).2.2.2 ≠ 0 := by
    unfold St.ask
    split
    · exact ⟨rfl, show ¬ (1 : Int) = 0 by decide⟩
    · rw [if_neg (by omega), if_neg (by omega)]
      exact ⟨rfl, show ¬ (8 : Int) = 0 by decide⟩
  rcases k with ⟨_, h1, h2⟩ | ⟨_, _, hre, k⟩
  · exact ⟨h1, h2⟩
  · rcases k with ⟨h, _⟩ | ⟨_, h⟩
    · exact absurd h e.2
    · exact ⟨h, hre.trans e.1⟩

theorem own0_asked {es : List Ev} {a b : PS} (h8 : ∀ e ∈ es, e.kind = 8) (hw : a.u0.mode = 3 ∨ a.u0.mode = 4) (hc : 0 ≤ a.u0.count) (hep : a.u0.ep = a.re.epoch) (hgr : a.u0.gr = true) (ho : a.re.own = 0) (k : PS.Asked es a b) :
    b.u0 = { a.u0 with en := a.u0.tick + 5 } ∧ b.u1 = a.u1 ∧ (∃ c, b.re = { a.re with con := 0, asked := a.re.now, last := c }) ∧ b.occ = a.occ ∧ b.pts = a.pts ∧ b.ln = a.ln := by
  unfold PS.Asked at k
  rw [any_8 h8 4 0 (by decide), any_8 h8 4 1 (by decide)] at k
  split at k
  · obtain ⟨u0', re1, u1', re2, j0, j1, rfl⟩ := k
    obtain ⟨x0, y0⟩ := ask_own0 hw hc hep hgr ho j0
    obtain ⟨x1, y1⟩ := ask_busy (by rw [y0]; exact ho) j1
    exact ⟨x0, x1, ⟨a.u0.count, by rw [← y0]; exact y1⟩, rfl, rfl, rfl⟩
  · obtain ⟨u0', re1, u1', re2, j1, j0, rfl⟩ := k
    obtain ⟨x1, y1⟩ := ask_busy ho j1
    subst y1
    obtain ⟨x0, y0⟩ := ask_own0 hw hc hep hgr ho j0
    exact ⟨x0, x1, ⟨a.u0.count, y0⟩, rfl, rfl, rfl⟩

theorem cyc_parts {u u' : US} {L : Lay} {occ : List Bool} {lies : List Int} {on : Bool} {cs : List Cmd} {d : List Int} {q : List Bool} (k : u.Cyc L occ lies on cs u' d q) : u'.en = u.en ∧ u'.tick = u.tick ∧ u'.ep = u.ep ∧ u'.gr = u.gr := by
  rcases k with ⟨_, rfl, _, _⟩ | ⟨h3, _, r2, _, rfl⟩
  · unfold US.cyc
    split
    · split
      · exact ⟨rfl, rfl, rfl, rfl⟩
      · exact ⟨rfl, rfl, rfl, rfl⟩
    · exact ⟨rfl, rfl, rfl, rfl⟩
  · exact ⟨rfl, rfl, rfl, rfl⟩
theorem cyc_mode {u u' : US} {L : Lay} {occ : List Bool} {lies : List Int} {on : Bool} {cs : List Cmd} {d : List Int} {q : List Bool} (hw : u.mode = 3 ∨ u.mode = 4) (k : u.Cyc L occ lies on cs u' d q) : u'.mode = 3 ∨ u'.mode = 4 := by
  rcases k with ⟨_, rfl, _, _⟩ | ⟨h3, _, r2, _, rfl⟩
  · unfold US.cyc
    split
    · split
      · exact hw
      · show (if u.left - 1 ≤ 0 then (3 : Int) else u.mode) = 3 ∨ (if u.left - 1 ≤ 0 then (3 : Int) else u.mode) = 4
        split
        · exact .inl rfl
        · exact hw
    · exact hw
  · exact .inl h3
theorem cyc_idle {u u' : US} {L : Lay} {occ : List Bool} {lies : List Int} {on : Bool} {cs : List Cmd} {d : List Int} {q : List Bool} (h : u.mode = 2) (k : u.Cyc L occ lies on cs u' d q) : u' = u := by
  rcases k with ⟨_, rfl, _, _⟩ | ⟨h3, _, r2, _, rfl⟩
  · unfold US.cyc
    rw [if_neg]
    have : u.works = false := by unfold US.works; simp [h]
    rw [this]; simp
  · omega

theorem own0_run {n : Int} {L : Lay} {es : List Ev} {ps ps' : PS} {d : List Int} {q : List Bool} (hi : ps.Inv n) (n0 : 1 ≤ n) (n1 : n ≤ 5000) (h : ps.Own0 n) (h8 : ∀ e ∈ es, e.kind = 8) (k : PS.Run L es ps ps' d q) :
    ps.u0.go.Cyc L ps.occ (ps.pts.map (·.lies)) true (cmdsOf es) ps'.u0 d q ∧ ps'.Own0 (n + 1) ∧ ps'.occ = ps.occ ∧ Stepped d ps.pts ps'.pts := by
  have hj : ps.J n n (2 * n) := hi
  obtain ⟨ps4, ps5, ps6, pts', k4, k5, k6, k7, k8⟩ := k.run
  have j5 := (hj.upto (by omega) k4).asked (by omega) k5
  have j6 := j5.tells k6
  obtain ⟨a0, a1, are, aocc, apts, anow⟩ := own0_upto hi n0 n1 h h8 k4
  have e4 : ps4.re.own = 0 := by rw [are]; exact h.own
  obtain ⟨b0, b1, ⟨c, bre⟩, bocc, bpts, bln⟩ := own0_asked h8 (by rw [a0]; exact h.w) (by rw [a0]; exact hj.u0.c) (by rw [a0, are]; exact h.ep) (by rw [a0]; exact h.gr) e4 k5
  have hgo : ps5.u0 = ps.u0.go := by
    rw [b0, a0]
    show ({ ps.u0 with tick := ps.u0.tick + 1, en := ps.u0.tick + 1 + 5 } : US) = { ps.u0 with tick := ps.u0.tick + 1, en := ps.u0.tick + 6 }
    have : ps.u0.tick + 1 + 5 = ps.u0.tick + 6 := by omega
    rw [this]
  have hcon : ps5.re.con = 0 := by rw [bre]
  obtain ⟨u0, d0, q0, u1, d1, q1, c0, c1, e6, ed, eq⟩ := k6
  rw [hcon] at c0 c1 ed eq
  rw [if_neg (by decide), if_pos (by decide)] at ed eq
  subst ed eq
  rw [hgo, bocc, aocc, bpts, apts] at c0
  have hu1 : ps5.u1.mode = 2 := by rw [b1]; exact a1
  have c1' := cyc_idle hu1 c1
  obtain ⟨y, rfl, z0, z1, z2, z3⟩ := k8
  have z3' := z3 j6.s1
  rw [e6] at z3' k7
  rw [e6]
  obtain ⟨p1, p2, p3, p4⟩ := cyc_parts c0
  refine ⟨c0, ⟨cyc_mode (u := ps.u0.go) h.w c0, by show u0.gr = true; rw [p4]; exact h.gr, ?_, ?_, ?_, ?_, ?_, ?_⟩, ?_, ?_⟩
  · show u0.en = u0.tick + 5
    rw [p1, p2]
    show ps.u0.tick + 6 = ps.u0.tick + 1 + 5
    omega
  · show u0.ep = ps5.re.epoch
    rw [p3, bre, are]
    exact h.ep
  · show ps5.re.own = 0
    rw [bre, are]; exact h.own
  · show ps5.re.asked = n + 1
    rw [bre, are]
  · show u1.mode = 2
    rw [c1']; exact hu1
  · show y.c0 = []
    exact z3' (by show u1.mode ≠ 3; rw [c1', hu1]; decide)
  · show ps5.occ = ps.occ
    rw [bocc, aocc]
  · show Stepped d ps.pts pts'
    have k7' : Stepped d ps5.pts pts' := k7
    rw [bpts, apts] at k7'
    exact k7'
end Go.Proofs.YtkplgggdidhnoaaGreatDoor

namespace Go.Proofs.YtkplgggdidhnoaaGreatDoor
open Go.ChangeShapes Go.WideShapes Go.ChangeAt Go.RowKit
set_option linter.unusedVariables false

/-- Nobody has called: no train, all points lie as at first, all routes of unit 0 are Idle. -/
structure PS.Fresh (L : Lay) (ps : PS) : Prop where
  rs : ps.u0.rs = List.replicate L.routes.length RS.idle
  occ : ps.occ = List.replicate L.secs.length false
  pts : ps.pts = List.replicate L.pts.length Pt.start
theorem stepped_zeros {d : List Int} {pts' : List Pt} {k j : Nat} (hd : d = List.replicate j 0) (h : Stepped d (List.replicate k Pt.start) pts') : pts' = List.replicate k Pt.start := by
  obtain ⟨h1, h2⟩ := h
  refine List.ext_getElem h1 fun i hi hi' => ?_
  have := h2 i hi' hi
  rw [this]
  subst hd
  split
  · simp only [List.getElem_replicate]
    unfold Pt.drive
    rw [if_pos (.inl rfl)]
    rfl
  · rfl
/-- The cycles behind the first one, while unit 0 is Forced; the tenth is over: it is Active. -/
structure PS.Wait (L : Lay) (n : Int) (ps : PS) : Prop where
  own : ps.Own0 n
  fresh : ps.Fresh L
  left : ps.u0.left = 10 - n
  mode : ps.u0.mode = if n < 10 then 4 else 3

theorem wait_first {L : Lay} {ps : PS} {d : List Int} {q : List Bool} (k : PS.Run L [] (PS.new L) ps d q) : ps.Wait L 1 := by
  obtain ⟨ps4, ps5, ps6, pts', k4, k5, k6, k7, k8⟩ := k.run
  have j6 := (((show (PS.new L).J 0 0 0 from PS.J.new L).upto (by omega) k4).asked (by omega) k5).tells k6
  rw [new_upto k4] at k5
  have hd : ((PS.new L).next.ticked []).now = 1 := rfl
  unfold PS.Asked at k5
  rw [hd, if_pos (by decide)] at k5
  obtain ⟨u0', re1, u1', re2, h0, h1, rfl⟩ := k5
  have e0 : ((PS.new L).next.ticked []).u0 = ⟨2, 1, 0, 0, 0, 0, false, none, List.replicate L.routes.length RS.idle⟩ := rfl
  have e1 : ((PS.new L).next.ticked []).u1 = ⟨2, 1, 0, 0, 0, 0, false, none, List.replicate L.routes.length RS.idle⟩ := rfl
  have er : ((PS.new L).next.ticked []).re = ⟨1, -1, -1, 0, 0, 0, 0⟩ := rfl
  rw [e0, er] at h0
  rw [e1] at h1
  have a0 : re1 = ⟨1, 0, -1, 1, 0, 1, 0⟩ ∧ u0' = ⟨4, 1, 0, 10, 1, 6, true, none, List.replicate L.routes.length RS.idle⟩ := by
    rcases h0 with ⟨h, _⟩ | ⟨_, _, hre, hg⟩
    · rcases h with h | ⟨h, _⟩
      · simp at h
      · exact absurd rfl h
    · have hre' : re1 = ⟨1, 0, -1, 1, 0, 1, 0⟩ := hre
      refine ⟨hre', ?_⟩
      rcases hg with ⟨_, hg⟩ | ⟨hg, _⟩
      · have hg' : US.Given ⟨2, 1, 0, 0, 0, 0, false, none, List.replicate L.routes.length RS.idle⟩ 1 0 u0' := hg
        rcases hg' with ⟨h, _⟩ | ⟨_, u, hu, rfl⟩ | ⟨_, h, _⟩
        · exact absurd h (show ¬ US.works ⟨2, 1, 0, 0, 0, 0, false, none, List.replicate L.routes.length RS.idle⟩ = true from by simp [US.works])
        · rcases hu with rfl | ⟨_, h, _⟩
          · show (⟨4, 1, 0, 10, 1, 6, true, none, List.replicate (List.replicate L.routes.length RS.idle).length RS.idle⟩ : US) = _
            rw [List.length_replicate]
          · exact absurd rfl h
        · exact absurd rfl h
      · exact absurd rfl hg
  obtain ⟨rfl, rfl⟩ := a0
  have a1 : re2 = ⟨1, 0, -1, 1, 0, 1, 0⟩ ∧ u1'.mode = 2 := by
    rcases h1 with ⟨h, _⟩ | ⟨_, _, hre2, hg2⟩
    · rcases h with h | ⟨h, _⟩
      · simp at h
      · exact absurd rfl h
    · have hre2' : re2 = ⟨1, 0, -1, 1, 0, 1, 0⟩ := hre2
      rcases hg2 with ⟨h, _⟩ | ⟨_, hu1⟩
      · exact absurd h (show ¬ (8 : Int) = 0 from by decide)
      · exact ⟨hre2', by rw [hu1]⟩
  obtain ⟨rfl, hu1⟩ := a1
  obtain ⟨u0, d0, q0, u1, d1, q1, c0, c1, e6, ed, eq⟩ := k6
  have c1' := cyc_idle hu1 c1
  have hz : d = List.replicate L.pts.length 0 := ed
  have hu0 : u0 = ⟨4, 1, 1, 9, 1, 6, true, none, List.replicate L.routes.length RS.idle⟩ := by
    rcases c0 with ⟨_, h, _, _⟩ | ⟨h3, _⟩
    · rw [h]; rfl
    · have h3' : (4 : Int) = 3 := h3
      omega
  subst hu0
  rw [e6] at k7
  have k7' : Stepped d (List.replicate L.pts.length Pt.start) pts' := k7
  have hp := stepped_zeros hz k7'
  obtain ⟨y, rfl, z0, z1, z2, z3⟩ := k8
  have z3' := z3 j6.s1
  rw [e6] at z3'
  rw [e6]
  exact ⟨⟨.inr rfl, rfl, rfl, rfl, rfl, rfl, by show u1.mode = 2; rw [c1']; exact hu1, z3' (by show u1.mode ≠ 3; rw [c1', hu1]; decide)⟩, ⟨rfl, rfl, hp⟩, rfl, rfl⟩

theorem wait_next {L : Lay} {n : Int} {ps ps' : PS} {d : List Int} {q : List Bool} (hi : ps.Inv n) (n0 : 1 ≤ n) (n1 : n < 10) (h : ps.Wait L n) (k : PS.Run L [] ps ps' d q) : ps'.Wait L (n + 1) := by
  obtain ⟨c0, ho, hoc, hst⟩ := own0_run hi n0 (by omega) h.own (fun e he => by cases he) k
  have hm : ps.u0.mode = 4 := by rw [h.mode, if_pos n1]
  have hl := h.left
  have key : ps'.u0 = ps.u0.go.cyc ∧ d = List.replicate L.pts.length 0 := by
    rcases c0 with ⟨_, e, ed, _⟩ | ⟨h3, _⟩
    · exact ⟨e, ed⟩
    · have h3' : ps.u0.mode = 3 := h3
      omega
  obtain ⟨e, ed⟩ := key
  have hw : (ps.u0.go.works && live ps.u0.go.en ps.u0.go.gr ps.u0.go.tick) = true := by
    have h1 : ps.u0.go.works = true := works_of (.inr hm)
    have h2 : live ps.u0.go.en ps.u0.go.gr ps.u0.go.tick = true := by
      show live (ps.u0.tick + 6) ps.u0.gr (ps.u0.tick + 1) = true
      unfold live
      rw [h.own.gr]
      simp
    rw [h1, h2]; rfl
  have e2 : ps.u0.go.cyc = { ps.u0.go.counted with left := ps.u0.left - 1, mode := if ps.u0.left - 1 ≤ 0 then 3 else ps.u0.mode } := by
    unfold US.cyc
    rw [if_pos hw, if_neg (by show ¬ ps.u0.mode = 3; omega)]
    rfl
  rw [e2] at e
  refine ⟨ho, ⟨by rw [e]; exact h.fresh.rs, by rw [hoc]; exact h.fresh.occ, ?_⟩, by rw [e]; show ps.u0.left - 1 = _; omega, ?_⟩
  · have hst' := hst
    rw [h.fresh.pts] at hst'
    exact stepped_zeros ed hst'
  · rw [e]
    show (if ps.u0.left - 1 ≤ 0 then (3 : Int) else ps.u0.mode) = _
    rw [hm]
    split <;> split <;> omega
end Go.Proofs.YtkplgggdidhnoaaGreatDoor

namespace Go.Proofs.YtkplgggdidhnoaaGreatDoor
open Go.ChangeShapes Go.WideShapes Go.ChangeAt Go.RowKit
set_option linter.unusedVariables false

/-- A point that must lie Reverse. -/
def revAt (ns : List Need) (i : Nat) : Bool := ns.any fun n => n.rev && n.pt.toNat == i
def moves (ns : List Need) : Bool := ns.any fun n => n.rev
theorem moves_snoc (ns : List Need) (k : Nat) (hk : k < ns.length) : moves (ns.take (k + 1)) = (moves (ns.take k) || ns[k].rev) := by
  unfold moves
  rw [List.take_succ_eq_append_getElem hk, List.any_append]
  simp
/-- How a point that is driven over stands behind k cycles. -/
def ptK : Nat → Pt
  | 0 => ⟨1, 0, 0⟩
  | 1 => ⟨0, 2, 1⟩
  | 2 => ⟨0, 2, 2⟩
  | _ => ⟨2, 0, 0⟩

theorem needs_mono {L : Lay} {ns : List Need} {p : List Int} {b : Bool} (h : NeedsOk L ns p b) : ∀ (i j : Nat) (hi : i < ns.length) (hj : j < ns.length), i < j → ns[i].pt < ns[j].pt := by
  intro i j
  induction j with
  | zero => intro hi hj hij; omega
  | succ j ih =>
    intro hi hj hij
    have h2 := h.2 j hj
    by_cases e : i = j
    · subst e; exact h2
    · have := ih hi (by omega) (by omega)
      omega
theorem needs_same {L : Lay} {ns : List Need} {p : List Int} {b : Bool} (h : NeedsOk L ns p b) {x y : Need} (hx : x ∈ ns) (hy : y ∈ ns) (e : x.pt = y.pt) : x = y := by
  obtain ⟨i, hi, rfl⟩ := List.getElem_of_mem hx
  obtain ⟨j, hj, rfl⟩ := List.getElem_of_mem hy
  rcases Nat.lt_trichotomy i j with hij | hij | hij
  · have := needs_mono h i j hi hj hij; omega
  · subst hij; rfl
  · have := needs_mono h j i hj hi hij; omega
theorem route_same {L : Lay} {R : Route} (h : RouteOk L R) {x y : Need} (hx : x ∈ R.needs) (hy : y ∈ R.needs) (e : x.pt = y.pt) : x = y := by
  unfold Route.needs at hx hy
  rcases List.mem_append.1 hx with hx | hx <;> rcases List.mem_append.1 hy with hy | hy
  · exact needs_same h.pts hx hy e
  · have a := (h.pts.1 x hx).2.2
    have b := (h.flank.1 y hy).2.2
    rw [e, b] at a; cases a
  · have a := (h.flank.1 x hx).2.2
    have b := (h.pts.1 y hy).2.2
    rw [e, b] at a; cases a
  · exact needs_same h.flank hx hy e
theorem route_in {L : Lay} {R : Route} (h : RouteOk L R) {x : Need} (hx : x ∈ R.needs) : 0 ≤ x.pt ∧ x.pt < L.pts.length := by
  unfold Route.needs at hx
  rcases List.mem_append.1 hx with hx | hx
  · have a := h.pts.1 x hx; exact ⟨a.1, a.2.1⟩
  · have a := h.flank.1 x hx; exact ⟨a.1, a.2.1⟩

/-- How a point lies as it must. -/
theorem lie_at {L : Lay} {R : Route} (h : RouteOk L R) {pts : List Pt} {k : Nat} (hk : k ≤ 3) (hl : pts.length = L.pts.length) (hp : ∀ (i : Nat) (hi : i < pts.length), pts[i] = if revAt R.needs i = true then ptK k else ptK 0) {x : Need} (hx : x ∈ R.needs) :
    lieB (pts.map (·.lies)) x = (!x.rev || decide (k = 3)) := by
  obtain ⟨x0, x1⟩ := route_in h hx
  have hi : x.pt.toNat < pts.length := by rw [hl]; omega
  have hg : (pts.map (·.lies)).getD x.pt.toNat 0 = (pts[x.pt.toNat]'hi).lies := by
    rw [List.getD_eq_getElem?_getD, List.getElem?_map, List.getElem?_eq_getElem hi]
    rfl
  unfold lieB posOf
  rw [hg, hp _ hi]
  cases hr : x.rev
  · have hn : revAt R.needs x.pt.toNat = false := by
      unfold revAt
      rw [List.any_eq_false]
      intro y hy hc
      obtain ⟨h1, h2⟩ := Bool.and_eq_true_iff.1 hc
      obtain ⟨y0, y1⟩ := route_in h hy
      have h3 : y.pt.toNat = x.pt.toNat := by simpa using h2
      have h4 := route_same h hy hx (by omega)
      rw [h4, hr] at h1
      cases h1
    rw [hn]
    rfl
  · have hn : revAt R.needs x.pt.toNat = true := by
      unfold revAt
      rw [List.any_eq_true]
      exact ⟨x, hx, by simp [hr]⟩
    rw [hn]
    have : k = 0 ∨ k = 1 ∨ k = 2 ∨ k = 3 := by omega
    rcases this with rfl | rfl | rfl | rfl <;> rfl

theorem drv_get (lies : List Int) : ∀ (ns : List Need) (d : List Int), (∀ x ∈ ns, lieB lies x = !x.rev) → (drv lies ns d).length = d.length ∧ ∀ i, i < d.length → (drv lies ns d)[i]? = if revAt ns i = true then some 2 else d[i]?
  | [], d, _ => ⟨rfl, fun i hi => rfl⟩
  | n :: ns, d, h => by
    have hn := h n (List.mem_cons_self ..)
    have e : drv lies (n :: ns) d = drv lies ns (if lieB lies n = true then d else d.set n.pt.toNat (posOf n)) := rfl
    obtain ⟨h1, h2⟩ := drv_get lies ns (if lieB lies n = true then d else d.set n.pt.toNat (posOf n)) (fun x hx => h x (List.mem_cons_of_mem _ hx))
    rw [e]
    have hlen : (if lieB lies n = true then d else d.set n.pt.toNat (posOf n)).length = d.length := by split <;> simp
    refine ⟨h1.trans hlen, fun i hi => ?_⟩
    rw [h2 i (by rw [hlen]; exact hi)]
    have hr : revAt (n :: ns) i = ((n.rev && n.pt.toNat == i) || revAt ns i) := rfl
    rw [hr, hn]
    cases hv : n.rev
    · simp
    · have hpo : posOf n = 2 := by unfold posOf; rw [hv]; rfl
      rw [hpo]
      by_cases hni : n.pt.toNat = i
      · subst hni
        simp [hi]
      · have h3 : (n.pt.toNat == i) = false := by simpa using hni
        simp [h3, List.getElem?_set_ne hni]

theorem idle_step (R : Route) (occ : List Bool) (lies : List Int) : RS.idle.step R occ lies = RS.idle := rfl

theorem called_core {L : Lay} {r k : Nat} {rs1 r2 : List RS} {pts pts' : List Pt} {occ : List Bool} {d : List Int} {q : List Bool} (ok : LayOk L) (hr : r < L.routes.length) (hl1 : rs1.length = L.routes.length)
    (h1 : ∀ (i : Nat) (h : i < rs1.length), rs1[i] = if i = r then ⟨1, k, 0, false⟩ else RS.idle) (hocc : ∀ x ∈ occ, x = false) (hpl : pts.length = L.pts.length) (hk : k ≤ 3)
    (hp : ∀ (i : Nat) (hi : i < pts.length), pts[i] = if revAt L.routes[r].needs i = true then ptK k else ptK 0)
    (hs : Stp L occ (pts.map (·.lies)) rs1 rs1.length r2) (hd : Drv L r2 occ (pts.map (·.lies)) (List.replicate L.pts.length 0) r2.length d)
    (hq : Prc L r2 occ (pts.map (·.lies)) (List.replicate L.sigs.length false) r2.length q) (hst : Stepped d pts pts') :
    (moves L.routes[r].needs = false ∨ k = 3 → q.getD L.routes[r].frm.toNat false = true) ∧
    (moves L.routes[r].needs = true → k < 3 → q = List.replicate L.sigs.length false ∧ r2.length = L.routes.length ∧ (∀ (i : Nat) (h : i < r2.length), r2[i] = if i = r then ⟨1, (k + 1 : Nat), 0, false⟩ else RS.idle) ∧
      pts'.length = L.pts.length ∧ ∀ (i : Nat) (hi : i < pts'.length), pts'[i] = if revAt L.routes[r].needs i = true then ptK (k + 1) else ptK 0) := by
  have ro := ok.route _ (List.getElem_mem hr)
  have hlie : ∀ x ∈ L.routes[r].needs, lieB (pts.map (·.lies)) x = (!x.rev || decide (k = 3)) := fun x hx => lie_at ro hk hpl hp hx
  have hl2 : r2.length = L.routes.length := hs.len.trans hl1
  have hat : ∀ (i : Nat) (h : i < r2.length), r2[i] = if i = r then (⟨1, k, 0, false⟩ : RS).step L.routes[r] occ (pts.map (·.lies)) else RS.idle := fun i h => by
    have hi1 : i < rs1.length := by omega
    rw [hs.at' i hi1 h (by omega), if_pos hi1, h1 i hi1]
    by_cases e : i = r
    · subst e
      rw [if_pos rfl, if_pos rfl]
    · rw [if_neg e, if_neg e]
      exact idle_step _ _ _
  constructor
  · intro hm
    have hall : L.routes[r].needs.all (lieB (pts.map (·.lies))) = true := by
      rw [List.all_eq_true]
      intro x hx
      rw [hlie x hx]
      rcases hm with hm | hm
      · have : x.rev = false := by
          have := (List.any_eq_false.1 hm) x hx
          simpa using this
        rw [this]; rfl
      · subst hm; simp
    refine hq.yes r (by omega) hr (by omega) ?_ ?_ hall
    · rw [hat r (by omega), if_pos rfl]
      unfold RS.step
      rw [if_pos rfl, if_pos hall]
    · rw [List.any_eq_false]
      intro x hx hc
      unfold occB at hc
      rw [List.getD_eq_getElem?_getD] at hc
      cases hg : occ[x.toNat]? with
      | none => rw [hg] at hc; cases hc
      | some b =>
        rw [hg] at hc
        have hb := hocc b (List.mem_of_getElem? hg)
        subst hb
        cases hc
  · intro hm hk3
    have hdec : decide (k = 3) = false := by simp; omega
    have hlie2 : ∀ x ∈ L.routes[r].needs, lieB (pts.map (·.lies)) x = !x.rev := fun x hx => by rw [hlie x hx, hdec]; simp
    have hall : ¬ L.routes[r].needs.all (lieB (pts.map (·.lies))) = true := fun h => by
      rw [List.all_eq_true] at h
      obtain ⟨x, hx, hv⟩ := List.any_eq_true.1 hm
      have := h x hx
      rw [hlie2 x hx, hv] at this
      cases this
    have hstep : (⟨1, k, 0, false⟩ : RS).step L.routes[r] occ (pts.map (·.lies)) = ⟨1, (k + 1 : Nat), 0, false⟩ := by
      unfold RS.step
      rw [if_pos rfl, if_neg hall]
      unfold RS.later
      rw [if_neg (by show ¬ (8 : Int) < (k : Int) + 1; omega)]
      show (⟨1, (k : Int) + 1, 0, false⟩ : RS) = _
      have : (k : Int) + 1 = ((k + 1 : Nat) : Int) := by omega
      rw [this]
    rw [hstep] at hat
    have honly : Only r2 occ r := ⟨⟨by omega, by rw [hat r (by omega), if_pos rfl]⟩, fun j hj hjr => by rw [hat j hj, if_neg hjr]; rfl, hocc⟩
    have hno : ∀ x ∈ r2, x.mode ≠ 2 := fun x hx => by
      obtain ⟨i, hi, rfl⟩ := List.getElem_of_mem hx
      rw [hat i hi]
      split
      · show ¬ (1 : Int) = 2; decide
      · show ¬ (0 : Int) = 2; decide
    have hde := hd.only r hr honly
    rw [if_pos (by omega)] at hde
    obtain ⟨g1, g2⟩ := drv_get (pts.map (·.lies)) L.routes[r].needs (List.replicate L.pts.length 0) hlie2
    rw [← hde] at g1 g2
    rw [List.length_replicate] at g1 g2
    obtain ⟨s1, s2⟩ := hst
    refine ⟨hq.no hno, hl2, hat, s1.trans hpl, fun i hi => ?_⟩
    have hi1 : i < pts.length := by omega
    have hid : i < d.length := by omega
    have e1 := s2 i hi1 hi
    rw [dif_pos hid, hp i hi1] at e1
    have e2 := g2 i (by omega)
    rw [List.getElem?_eq_getElem hid] at e2
    rw [e1]
    cases hv : revAt L.routes[r].needs i
    · rw [hv] at e2
      rw [if_neg (by simp), List.getElem?_replicate, if_pos (by omega)] at e2
      simp only [Option.some.injEq] at e2
      rw [e2]
      rfl
    · rw [hv] at e2
      rw [if_pos rfl] at e2
      simp only [Option.some.injEq] at e2
      rw [e2]
      have : k = 0 ∨ k = 1 ∨ k = 2 := by omega
      rcases this with rfl | rfl | rfl <;> rfl

/-- Route r has been called, k cycles ago; it waits for its points. -/
structure PS.Called (L : Lay) (r k : Nat) (ps : PS) : Prop where
  mode : ps.u0.mode = 3
  len : ps.u0.rs.length = L.routes.length
  rs : ∀ (i : Nat) (h : i < ps.u0.rs.length), ps.u0.rs[i] = if i = r then ⟨1, k, 0, false⟩ else RS.idle
  occ : ps.occ = List.replicate L.secs.length false
  pl : ps.pts.length = L.pts.length
  pts : ∀ (ns : List Need), (∃ h : r < L.routes.length, ns = L.routes[r].needs) → ∀ (i : Nat) (hi : i < ps.pts.length), ps.pts[i] = if revAt ns i = true then ptK k else ptK 0

theorem active_cyc {u u' : US} {L : Lay} {occ : List Bool} {lies : List Int} {cs : List Cmd} {d : List Int} {q : List Bool} (hm : u.mode = 3) (hg : u.gr = true) (he : u.en = u.tick + 5) (k : u.go.Cyc L occ lies true cs u' d q) :
    ∃ r2, CycR L occ lies true cs u.rs r2 d q ∧ u' = { u.go.counted with rs := r2 } := by
  have hl : live u.go.en u.go.gr u.go.tick = true := by
    show live (u.tick + 6) u.gr (u.tick + 1) = true
    unfold live
    rw [hg]
    simp
  have hw : u.go.works = true := works_of (.inl hm)
  rcases k with ⟨h, _⟩ | ⟨_, _, r2, h, e⟩
  · exact absurd (show u.go.mode = 3 from hm) (h (by rw [hw, hl]; rfl))
  · exact ⟨r2, h, e⟩
theorem nots_false {n : Nat} : ∀ x ∈ List.replicate n false, x = false := fun x hx => List.eq_of_mem_replicate hx

/-- One more cycle of a route that waits. -/
theorem called_next {L : Lay} {n : Int} {r k : Nat} {ps ps' : PS} {d : List Int} {q : List Bool} (ok : LayOk L) (hr : r < L.routes.length) (hi : ps.Inv n) (n0 : 1 ≤ n) (n1 : n ≤ 5000) (h : ps.Own0 n) (hc : ps.Called L r k) (hk : k ≤ 3) (run : PS.Run L [] ps ps' d q) :
    ps'.Own0 (n + 1) ∧ (k = 3 → q.getD L.routes[r].frm.toNat false = true) ∧ (moves L.routes[r].needs = true → k < 3 → q = List.replicate L.sigs.length false ∧ ps'.Called L r (k + 1)) := by
  obtain ⟨c0, ho, hoc, hst⟩ := own0_run hi n0 n1 h (fun e he => by cases he) run
  obtain ⟨r2, ⟨rs1, e1, hs, hon, _⟩, e⟩ := active_cyc hc.mode h.gr h.en c0
  rw [if_pos rfl] at e1
  have e1' : rs1 = ps.u0.rs := e1
  subst e1'
  obtain ⟨hd, hq⟩ := hon rfl
  obtain ⟨k1, k2⟩ := called_core ok hr hc.len hc.rs (by rw [hc.occ]; exact nots_false) hc.pl hk (hc.pts _ ⟨hr, rfl⟩) hs hd hq hst
  refine ⟨ho, fun h3 => k1 (.inr h3), fun hm h3 => ?_⟩
  obtain ⟨a1, a2, a3, a4, a5⟩ := k2 hm h3
  refine ⟨a1, by rw [e]; exact hc.mode, by rw [e]; exact a2, ?_, by rw [hoc]; exact hc.occ, a4, ?_⟩
  · rw [e]; exact a3
  · rintro ns ⟨_, rfl⟩
    exact a5

/-- The cycle in which a route is called. -/
theorem call_run {L : Lay} {n : Int} {r : Nat} {ps ps' : PS} {d : List Int} {q : List Bool} (ok : LayOk L) (hr : r < L.routes.length) (hi : ps.Inv n) (n0 : 1 ≤ n) (n1 : n ≤ 5000) (h : ps.Own0 n) (hf : ps.Fresh L) (hm : ps.u0.mode = 3) (run : PS.Run L [⟨8, 0, 0, 1, r⟩] ps ps' d q) :
    ps'.Own0 (n + 1) ∧ (moves L.routes[r].needs = false → q.getD L.routes[r].frm.toNat false = true) ∧ (moves L.routes[r].needs = true → q = List.replicate L.sigs.length false ∧ ps'.Called L r 1) := by
  obtain ⟨c0, ho, hoc, hst⟩ := own0_run hi n0 n1 h (fun e he => by simp at he; rw [he]) run
  obtain ⟨r2, ⟨rs1, e1, hs, hon, _⟩, e⟩ := active_cyc hm h.gr h.en c0
  rw [if_pos rfl] at e1
  obtain ⟨m, hcm, e2⟩ := e1
  have e2' : rs1 = m := e2
  subst e2'
  have hclear : Clear ps.u0.rs ps.occ := ⟨fun x hx => by rw [hf.rs] at hx; rw [List.eq_of_mem_replicate hx]; rfl, by rw [hf.occ]; exact nots_false⟩
  have e3 : rs1 = ps.u0.rs.set r ⟨1, 0, 0, false⟩ := hcm rfl (by show (0 : Int) ≤ r; omega) (by show (r : Int) < _; omega) hclear
  have hlen : rs1.length = L.routes.length := by rw [e3, List.length_set, hf.rs, List.length_replicate]
  have hat : ∀ (i : Nat) (h : i < rs1.length), rs1[i] = if i = r then ⟨1, (0 : Nat), 0, false⟩ else RS.idle := fun i h => by
    subst e3
    rw [List.getElem_set]
    by_cases e : i = r
    · subst e
      rw [if_pos rfl, if_pos rfl]
      rfl
    · rw [if_neg (fun h => e h.symm), if_neg e]
      simp only [hf.rs, List.getElem_replicate]
  have hpl : ps.pts.length = L.pts.length := by rw [hf.pts, List.length_replicate]
  have hpt : ∀ (i : Nat) (hi : i < ps.pts.length), ps.pts[i] = if revAt L.routes[r].needs i = true then ptK 0 else ptK 0 := fun i hi => by
    simp only [hf.pts, List.getElem_replicate, ite_self]
    rfl
  obtain ⟨hd, hq⟩ := hon rfl
  obtain ⟨k1, k2⟩ := called_core (k := 0) ok hr hlen hat (by rw [hf.occ]; exact nots_false) hpl (by omega) hpt hs hd hq hst
  refine ⟨ho, fun hm => k1 (.inl hm), fun hmv => ?_⟩
  obtain ⟨a1, a2, a3, a4, a5⟩ := k2 hmv (by omega)
  refine ⟨a1, by rw [e]; exact hm, by rw [e]; exact a2, ?_, by rw [hoc]; exact hf.occ, a4, ?_⟩
  · rw [e]; exact a3
  · rintro ns ⟨_, rfl⟩
    exact a5
end Go.Proofs.YtkplgggdidhnoaaGreatDoor

namespace Go.Proofs.YtkplgggdidhnoaaGreatDoor
open Go.ChangeShapes Go.WideShapes Go.ChangeAt Go.RowKit
set_option linter.unusedVariables false

/-- append(s, x...) as a step of a region that draws its order: s is owned; x reads as cells. -/
theorem step_append_sl {P : Program} (w : World) {ops : Array Oper} {o : Oper} {a : Act} {K : Act → World → Prop} {Q : Exit → Act → World → Prop} {E : Prop} (hgd : o.guard = none) (s x : Operand) (t : TypeId)
    (ho : o.op = .call { callee := .builtin .append, args := #[s, x], argTypes := #[t, t] })
    (base : Nat) (e : TypeId) (i : TypeInfo) (z : Value) (size bytes : Nat) (ht : P.underlying t = some (.slice e)) (hi : P.info? e = some i) (hz : i.zero = some z)
    (hsize : i.size = size) (hby : i.bytes = bytes) (hzs : z.cells.size = size) (hsz : 0 < size)
    (v : Value) (n : Nat) (xs : List Value) (hs : a.eval s = v) (hown : Own (New base) w e size v n xs)
    (B : Nat → Prop) (u : Value) (m : Nat) (news : List Value) (hx : a.eval x = u) (hu : Sl B w u m news) (hl : news.length = m * size) (h1 : ∀ u ∈ news, u.oneCell' = true)
    (h63 : n + m ≤ maxLen) (hbytes : (n + m) * bytes ≤ 140737488355328) (hbase : base ≤ w.heap.size)
    (h : ∀ v' w', Own (New base) w' e size v' (n + m) (xs ++ news) → Ch (fun k => base ≤ k ∧ v.ownBlock = some k) w w' → K (a.put o.dst v') w') :
    if Region.wanted o (yielded ops a.tmps) = true then Oper.wp P o a w K Q else E := by
  have hw : Region.wanted o (yielded ops a.tmps) = true := by simp [Region.wanted, hgd]
  rw [if_pos hw]
  obtain ⟨ao, cap, rfl, hmc, hc, hnil, hat⟩ := hu
  cases ao with
  | none =>
    obtain ⟨rfl, rfl⟩ := hnil rfl
    have e0 : news = [] := List.eq_nil_of_length_eq_zero (by simpa using hl)
    subst e0
    have hrun := run_append_owned_none (P := P) (w := w) base t o.type e i size ht hi v n xs hown.row
    unfold Oper.wp
    simp [execOp, ho, resolve, invoke, builtin, hs, hx, hrun, Result.andThen]
    exact h v w (by simpa using hown) (Ch.refl _ _)
  | some ad =>
    have hnews : ∀ j u, news[j]? = some u → w.cell? (ad.add j) = some u := fun j u hj => by
      have hjl : j < news.length := by
        rcases Nat.lt_or_ge j news.length with h | h
        · exact h
        · simp [List.getElem?_eq_none h] at hj
      obtain ⟨b, off, e', _, hlt, hc⟩ := hat (by intro h; subst h; simp at hjl)
      simp only [Option.some.injEq] at e'
      subst e'
      have : (⟨b, off, none⟩ : Addr).add j = ⟨b, off + j, none⟩ := by unfold Addr.add; split <;> simp_all
      rw [this, hc j hjl, hj]
    obtain ⟨v', w', hrun, r1, r2, _⟩ := run_append_own (P := P) w base t o.type e i z size bytes ht hi hz hsize hby hzs hsz v n xs hown.row ad m cap news hl hnews h1 h63 hbytes hbase
    unfold Oper.wp
    simp [execOp, ho, resolve, invoke, builtin, hs, hx, hrun, Result.andThen]
    exact h v' w' (Own.of r1) (Ch.own' hown r2)

theorem own_empty (w : World) (e C g base : Nat) (hg : g = w.heap.size) (hb : base ≤ g) : Own (New base) (w.alloc (.cells #[] e)) e C (.slice (some ⟨g, 0, none⟩) 0 0) 0 [] :=
  ⟨by simp, .inr ⟨g, 0, #[], rfl, hb, Blk.newk w g hg e #[], Nat.le_refl _, by unfold maxLen; omega, by simp, by simp⟩⟩
theorem one_needs (ns : List Need) : ∀ u ∈ ns.flatMap fNeed, u.oneCell' = true := fun u hu => by
  obtain ⟨x, _, h⟩ := List.mem_flatMap.1 hu
  simp [fNeed] at h
  rcases h with rfl | rfl <;> rfl

set_option maxRecDepth 100000 in
set_option maxHeartbeats 8000000 in
theorem refNeeds_any (B : Nat → Prop) (w : World) (v : Value) (L : Lay) (r : Nat) (hL : LayAt B w v L) (ok : LayOk L) (hr : r < L.routes.length) :
    Calls Tryz.prog 16 #[v, .int .i64 r] w fun e w' => ∃ v, e = .returned v ∧ Own (New w.heap.size) w' 48 2 v (L.routes[r].needs).length ((L.routes[r].needs).flatMap fNeed) ∧ Ch Noone w w' := by
  obtain ⟨q1, q2, q3, q4, -, rfl, -⟩ := id hL
  obtain ⟨b, off, c, u1, u2, u3, e4, hlc, hB, hbw, a0, a1, a2, a3, a4, a5, x1, x2, x3⟩ := hL.route hr
  subst e4
  have n1 := needs_le (ok.route _ (List.getElem_mem hr)).pts
  have n2 := needs_le (ok.route _ (List.getElem_mem hr)).flank
  have l1 := ok.p1
  obtain ⟨w0, hw0⟩ : ∃ w0, w0 = w.alloc (.cells #[q1, q2, q3, .slice (some ⟨b, off, none⟩) L.routes.length c] 26) := ⟨_, rfl⟩
  have c0 : Ch Noone w w0 := by rw [hw0]; exact (Ch.refl _ _).alloc _
  have hb0 : Blk w0 w.heap.size 26 #[q1, q2, q3, .slice (some ⟨b, off, none⟩) L.routes.length c] := by rw [hw0]; exact Blk.new _ _ _
  obtain ⟨s1, k1, rfl, -, -, -, -⟩ := id x2
  obtain ⟨s2, k2, rfl, -, -, -, -⟩ := id x3
  have HS : Hid (∀ W', Ch Noone w0 W' → W'.cell? ⟨w.heap.size, 3, none⟩ = some (.slice (some ⟨b, off, none⟩) L.routes.length c) ∧ W'.cell? ⟨b, off + r * 6 + 4, none⟩ = some (.slice s1 L.routes[r].pts.length k1) ∧ W'.cell? ⟨b, off + r * 6 + 5, none⟩ = some (.slice s2 L.routes[r].flank.length k2)) := fun W' cc =>
    ⟨(cc.blk hb0 (fun h => h)).cell 3, ((c0.trans cc).rd hbw _).trans a4, ((c0.trans cc).rd hbw _).trans a5⟩
  have HX2 := Lib.hid (fun W' (cc : Ch Noone w0 W') => x2.ch0 (c0.trans cc))
  have HX3 := Lib.hid (fun W' (cc : Ch Noone w0 W') => x3.ch0 (c0.trans cc))
  have HW0 := Lib.hid hw0
  have C0 := Lib.hid c0
  have hr0 : (0 : Int) ≤ r := by omega
  have hr1 : (r : Int) < L.routes.length := by omega
  obtain ⟨i0, hi0, hz0, hz1, hz2⟩ := info_parts info_need
  clear hL ok hw0 c0 hb0 a0 a1 a2 a3 a4 a5 x1 x2 x3
  unfold Route.needs
  generalize L.routes[r] = R at *
  go_enter Tryz.func16, Tryz.ntmps16
  go_wp2_with fail
  rw [← HW0.out]
  go_region_held3 (fun W' => W'.cell? ⟨w.heap.size, 3, none⟩ = some (.slice (some ⟨b, off, none⟩) L.routes.length c) ∧ W'.cell? ⟨b, off + r * 6 + 4, none⟩ = some (.slice s1 R.pts.length k1) ∧ W'.cell? ⟨b, off + r * 6 + 5, none⟩ = some (.slice s2 R.flank.length k2))
    (first | exact HS.out _ (Ch.refl _ _).drew | exact HS.out _ ((Ch.refl _ _).drew.alloc _) | exact HS.out _ CA.out | exact HS.out _ CB.out)
    (first
      | (refine step_append_sl _ rfl (.tmp 5) (.tmp 11) 45 rfl w0.heap.size 48 i0 _ 2 16 Tryz.underlying45 hi0 hz0 hz1 hz2 (by rfl) (by omega) _ 0 [] (by simp [Act.eval]) (own_empty _ _ _ _ _ rfl (Nat.le_refl _)) B _ R.pts.length (R.pts.flatMap fNeed) (by simp [Act.eval]) (HX2.out _ ((Ch.refl _ _).drew.alloc _)) (flat_length fNeed 2 (fun _ => rfl) _) (one_needs _) (by unfold maxLen; omega) (by omega) (by simp) ?_; intro v1 w1 ho1 c1
         obtain ⟨g1, d1, rfl, -, -, -, -⟩ := id ho1.sl
         have CA : Hid (Ch Noone w0 w1) := ((Ch.refl _ _).drew.alloc _).then c1 (fun k hk h => absurd h.1 (Nat.not_le.2 hk))
         have HO1 := Lib.hid ho1
         clear ho1 c1)
      | (refine step_append_sl _ rfl (.tmp 12) (.tmp 18) 45 rfl w0.heap.size 48 i0 _ 2 16 Tryz.underlying45 hi0 hz0 hz1 hz2 (by rfl) (by omega) _ _ _ (by simp [Act.eval]) HO1.out B _ R.flank.length (R.flank.flatMap fNeed) (by simp [Act.eval]) (HX3.out _ CA.out) (flat_length fNeed 2 (fun _ => rfl) _) (one_needs _) (by unfold maxLen; omega) (by omega) CA.out.size ?_; intro v2 w2 ho2 c2
         obtain ⟨g2, d2, rfl, -, -, -, -⟩ := id ho2.sl
         have CB : Hid (Ch Noone w0 w2) := CA.out.then c2 (fun k hk h => absurd h.1 (Nat.not_le.2 hk))
         have HO2 := Lib.hid ho2
         clear ho2 c2))
  go_wp2_with fail
  go_ret
  have ho := HO2.out
  simp only [Nat.zero_add, List.nil_append] at ho
  refine ⟨_, rfl, ?_, C0.out.trans CB.out⟩
  rw [List.length_append, List.flatMap_append]
  exact ho.mono fun g hg _ => by have h : _ ≤ g := hg; have := C0.out.size; show _ ≤ g; omega
end Go.Proofs.YtkplgggdidhnoaaGreatDoor
