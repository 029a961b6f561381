/-
  The plain law behind TopForced: a unit that works owns the relay; a Forced one comes to be Active by its own cycles alone. No condition. The plain law behind TopForced, second part: one cycle. No condition. The plain law behind TopForced, third part: the cycles of a Forced unit. No condition. pointsmantop.slow: false, where no event of the first 90 rows is Slow. No condition.
-/
import Derived.Test.YtkplgggdidhnoaaGreatDoorM21
import Derived.Test.YtkplgggdidhnoaaGreatDoorM11
namespace Go.Proofs.YtkplgggdidhnoaaGreatDoor
open Go.ChangeShapes Go.WideShapes Go.ChangeAt Go.RowKit
set_option linter.unusedVariables false

/-- A unit that works owns the relay; its lease ends k cycles behind what its last asking gave, at most. -/
def US.Owns (u : US) (i k : Int) (s : St) : Prop := u.works = true → s.own = i ∧ u.en - u.tick ≤ k - (s.now - s.asked)
/-- .. ahead of its Tick: or the relay let it go. -/
def US.Owns0 (u : US) (i : Int) (s : St) : Prop := u.works = true → (s.own = i ∨ 8 ≤ s.now - s.asked) ∧ u.en - u.tick ≤ 6 - (s.now - s.asked)
theorem US.Owns.begin {u : US} {i n : Int} {s : St} (h : u.Owns i 5 s) (h1 : n = s.now + 1) (h2 : n ≤ 1099511627776) : u.Owns0 i (s.begin n) := by
  intro hw
  obtain ⟨h3, h4⟩ := h hw
  unfold St.begin
  rw [if_neg (by omega)]
  split
  · exact ⟨.inr (by show 8 ≤ n - s.asked; omega), by show u.en - u.tick ≤ 6 - (n - s.asked); omega⟩
  · exact ⟨.inl h3, by show u.en - u.tick ≤ 6 - (n - s.asked); omega⟩
theorem not_works {u : US} (h : u.mode = 0 ∨ u.mode = 1 ∨ u.mode = 2) : ¬ u.works = true := by
  unfold US.works
  rcases h with h | h | h <;> simp [h]
theorem US.Owns0.hapU {u : US} {i j : Int} {s : St} (h : u.Owns0 i s) (e : Ev) : (hapU e j u).Owns0 i s := by
  unfold Go.Proofs.YtkplgggdidhnoaaGreatDoor.hapU
  split
  · split
    · intro hw; exact absurd hw (not_works (.inl rfl))
    · split
      · unfold US.start
        split
        · intro hw; exact absurd hw (not_works (.inr (.inl rfl)))
        · exact h
      · exact h
  · exact h
theorem US.Owns0.tk {u : US} {i : Int} {s : St} (h : u.Owns0 i s) : (u.tk false).Owns i 5 s := by
  unfold US.tk
  split
  · rename_i h0
    intro hw; exact absurd hw (not_works (.inl h0))
  · split
    · rename_i h1
      split
      · intro hw; exact absurd hw (not_works (.inr (.inr rfl)))
      · intro hw; exact absurd hw (not_works (.inr (.inl h1)))
    · split
      · intro hw; exact absurd hw (not_works (.inr (.inr rfl)))
      · rename_i hc
        intro hw
        have hw' : u.works = true := hw
        obtain ⟨h3, h4⟩ := h hw'
        have hl : live u.en u.gr (u.tk0 false).tick = true := by
          simp only [hw', Bool.true_and, Bool.not_eq_true'] at hc
          simpa using hc
        have ht : (u.tk0 false).tick = u.tick + 1 := rfl
        rw [ht] at hl
        unfold live at hl
        have hl2 : u.tick + 1 < u.en := by have := (Bool.and_eq_true_iff.1 hl).2; simpa using this
        refine ⟨by omega, ?_⟩
        show u.en - (u.tick + 1) ≤ 5 - (s.now - s.asked)
        omega
theorem US.Owns.heard {u u' : US} {bs : List UInt8} {i : Int} {s : St} (h : u.Owns i 5 s) (k : US.HearR bs u u') : u'.Owns i 5 s := by
  rcases k.1 with rfl | ⟨h2, c, r, rfl⟩
  · exact h
  · intro hw; exact absurd hw (not_works (.inr (.inr h2)))
theorem US.Owns.alone {u : US} {i j k : Int} {s : St} (h : u.Owns i k s) (hj : s.own = j) (hij : j ≠ i) : ¬ u.works = true := fun hw => hij (hj.symm.trans (h hw).1)
theorem yield_other {s : St} {j : Int} (h : ¬ s.own = j) : (s.yield j).1 = s := by
  unfold St.yield
  rw [if_pos (.inr h)]
/-- Both, behind their clocks. -/
def PS.Both (ps : PS) : Prop := ps.u0.Owns 0 5 ps.re ∧ ps.u1.Owns 1 5 ps.re
theorem Both.yl1 {e : Ev} {a b : PS} (h : a.Both) (k : PS.Yl1 e a b) : b.Both := by
  obtain ⟨h0, h1⟩ := h
  unfold PS.Yl1 at k
  split at k
  · subst k
    by_cases hm : a.u0.mode = 3
    · have hw : a.u0.works = true := by unfold US.works; simp [hm]
      refine ⟨fun hx => ?_, fun hx => absurd hx (h1.alone (h0 hw).1 (by decide))⟩
      have hx' : a.u0.yld.works = true := hx
      rw [US.yld, if_pos hm] at hx'
      exact absurd hx' (not_works (.inr (.inr rfl)))
    · have e1 : a.u0.yld = a.u0 := by unfold US.yld; rw [if_neg hm]
      refine ⟨?_, ?_⟩
      · show US.Owns a.u0.yld 0 5 (if a.u0.mode = 3 then (a.re.yield 0).1 else a.re)
        rw [if_neg hm, e1]; exact h0
      · show US.Owns a.u1 1 5 (if a.u0.mode = 3 then (a.re.yield 0).1 else a.re)
        rw [if_neg hm]; exact h1
  · split at k
    · subst k
      by_cases hm : a.u1.mode = 3
      · have hw : a.u1.works = true := by unfold US.works; simp [hm]
        refine ⟨fun hx => absurd hx (h0.alone (h1 hw).1 (by decide)), fun hx => ?_⟩
        have hx' : a.u1.yld.works = true := hx
        rw [US.yld, if_pos hm] at hx'
        exact absurd hx' (not_works (.inr (.inr rfl)))
      · have e1 : a.u1.yld = a.u1 := by unfold US.yld; rw [if_neg hm]
        refine ⟨?_, ?_⟩
        · show US.Owns a.u0 0 5 (if a.u1.mode = 3 then (a.re.yield 1).1 else a.re)
          rw [if_neg hm]; exact h0
        · show US.Owns a.u1.yld 1 5 (if a.u1.mode = 3 then (a.re.yield 1).1 else a.re)
          rw [if_neg hm, e1]; exact h1
    · subst k; exact ⟨h0, h1⟩
/-- What a unit's asking does to both. -/
theorem ask_owns {u u' v : US} {re re' : St} {i j : Int} {d : Bool} (k : AskRel u re i d u' re') (hu : u.Owns i 5 re) (hv : v.Owns j 5 re) (hij : i ≠ j) (hi : 0 ≤ i ∧ i < 2) (hj : 0 ≤ j) : u'.Owns i 5 re' ∧ v.Owns j 5 re' := by
  rcases k with ⟨_, rfl, rfl⟩ | ⟨_, hm, rfl, k⟩
  · exact ⟨hu, hv⟩
  · have key : (re.ask i u.count).1 = re ∧ (re.ask i u.count).2.2.2 ≠ 0 ∨ ((re.ask i u.count).2.2.2 = 0 ∧ (re.ask i u.count).1.own = i ∧ (re.ask i u.count).1.asked = (re.ask i u.count).1.now ∧ (re.own = i ∨ re.own = -1)) := by
      unfold St.ask
      split
      · exact .inl ⟨rfl, show ¬ (1 : Int) = 0 from by decide⟩
      · split
        · rename_i h; exact .inr ⟨rfl, h, rfl, .inl h⟩
        · split
          · rename_i h; exact .inr ⟨rfl, rfl, rfl, .inr h.1⟩
          · exact .inl ⟨rfl, show ¬ (8 : Int) = 0 from by decide⟩
    rcases key with ⟨e1, e2⟩ | ⟨e0, e1, e2, e3⟩
    · rw [e1]
      rcases k with ⟨h, _⟩ | ⟨_, rfl⟩
      · exact absurd h e2
      · exact ⟨hu, hv⟩
    · refine ⟨fun hw => ⟨e1, ?_⟩, fun hw => ?_⟩
      · rcases k with ⟨_, k⟩ | ⟨h, rfl⟩
        · rw [e2]
          rcases k with ⟨_, _, rfl⟩ | ⟨_, x, hx, rfl⟩ | ⟨h1, h2, rfl⟩
          · show u.tick + 8 - 3 - u.tick ≤ _; omega
          · have hb := US.begun_ep hx
            show x.en - x.tick ≤ _
            rw [hb.2.1, hb.2.2.2]
            show u.tick + 8 - 3 - u.tick ≤ _; omega
          · rw [h1] at hw; cases hw
        · exact absurd e0 h
      · have h4 := (hv hw).1
        omega
end Go.Proofs.YtkplgggdidhnoaaGreatDoor

namespace Go.Proofs.YtkplgggdidhnoaaGreatDoor
open Go.ChangeShapes Go.WideShapes Go.ChangeAt Go.RowKit
set_option linter.unusedVariables false

theorem cyc_works {u u' : US} {L : Lay} {occ : List Bool} {lies : List Int} {on : Bool} {cs : List Cmd} {d : List Int} {q : List Bool} (k : u.Cyc L occ lies on cs u' d q) : (u'.works = true → u.works = true) ∧ u'.en = u.en ∧ u'.tick = u.tick := by
  rcases k with ⟨_, rfl, _, _⟩ | ⟨h3, _, r2, _, rfl⟩
  · unfold US.cyc
    split
    · rename_i hw
      have hw' := (Bool.and_eq_true_iff.1 hw).1
      split
      · exact ⟨fun _ => hw', rfl, rfl⟩
      · exact ⟨fun _ => hw', rfl, rfl⟩
    · exact ⟨fun h => h, rfl, rfl⟩
  · exact ⟨fun _ => by unfold US.works; simp [h3], rfl, rfl⟩
/-- Between the cycles. -/
structure PS.F (ps : PS) : Prop where
  both : ps.Both
  c1 : ps.u0.mode ≠ 3 → ps.ln.c1 = []
  c0 : ps.u1.mode ≠ 3 → ps.ln.c0 = []
theorem both_asked {es : List Ev} {a b : PS} (h : a.Both) (k : PS.Asked es a b) : b.Both := by
  unfold PS.Asked at k
  split at k
  · obtain ⟨u0', re1, u1', re2, k0, k1, rfl⟩ := k
    obtain ⟨p0, p1⟩ := ask_owns k0 h.1 h.2 (by decide) (by decide) (by decide)
    obtain ⟨q1, q0⟩ := ask_owns k1 p1 p0 (by decide) (by decide) (by decide)
    exact ⟨q0, q1⟩
  · obtain ⟨u0', re1, u1', re2, k0, k1, rfl⟩ := k
    obtain ⟨p1, p0⟩ := ask_owns k0 h.2 h.1 (by decide) (by decide) (by decide)
    obtain ⟨q0, q1⟩ := ask_owns k1 p0 p1 (by decide) (by decide) (by decide)
    exact ⟨q0, q1⟩
theorem both_upto {n : Int} {es : List Ev} {ps ps4 : PS} (hi : ps.Inv n) (n1 : n ≤ 5000) (h : ps.Both) (hs : ∀ e ∈ es, e.kind ≠ 3) (k : PS.Upto es ps ps4) : ps4.Both := by
  have hj : ps.J n n (2 * n) := hi
  have s0 : ∀ i, es.any (evB 3 i) = false := fun i => by
    rw [List.any_eq_false]
    intro e he
    have := hs e he
    simp [evB, this]
  obtain ⟨ps2, ps3, k1, ⟨x0, x1, r0, r1, rfl⟩, k3⟩ := k
  have b1 : ps.next.u0.Owns0 0 ps.next.re ∧ ps.next.u1.Owns0 1 ps.next.re :=
    ⟨h.1.begin (by rw [hj.rn, hj.nw]) (by rw [hj.nw]; omega), h.2.begin (by rw [hj.rn, hj.nw]) (by rw [hj.nw]; omega)⟩
  have b2 : ps2.u0.Owns0 0 ps2.re ∧ ps2.u1.Owns0 1 ps2.re := PS.Fold.keep (P := fun x => x.u0.Owns0 0 x.re ∧ x.u1.Owns0 1 x.re) (fun e a b ha hb => by
    obtain ⟨e0, e1, er, _⟩ := hb
    rw [e0, e1, er]
    exact ⟨ha.1.hapU e, ha.2.hapU e⟩) b1 k1
  rw [s0 0] at r0
  rw [s0 1] at r1
  have b3 : PS.Both { ps2 with u0 := x0, u1 := x1, ln := (ps2.ln.take 0).take 1 } := ⟨b2.1.tk.heard r0, b2.2.tk.heard r1⟩
  exact PS.Fold.keep (P := fun x => x.Both) (fun e a b ha hb => Both.yl1 ha hb) b3 k3
theorem f_run {n : Int} {L : Lay} {es : List Ev} {ps ps' : PS} {d : List Int} {q : List Bool} (hi : ps.Inv n) (n0 : 0 ≤ n) (n1 : n ≤ 5000) (h : ps.F) (hs : ∀ e ∈ es, e.kind ≠ 3) (k : PS.Run L es ps ps' d q) : ps'.F := by
  have hj : ps.J n n (2 * n) := hi
  obtain ⟨ps4, ps5, ps6, pts', k4, k5, k6, _, k8⟩ := k.run
  have j5 := (hj.upto (by omega) k4).asked (by omega) k5
  have j6 := j5.tells k6
  have b5 := both_asked (both_upto hi n1 h.both hs k4) k5
  obtain ⟨u0, d0, q0, u1, d1, q1, c0, c1, e6, _, _⟩ := k6
  obtain ⟨w0, en0, t0⟩ := cyc_works c0
  obtain ⟨w1, en1, t1⟩ := cyc_works c1
  obtain ⟨y, rfl, z0, z1, z2, z3⟩ := k8
  subst e6
  exact ⟨⟨fun hw => by
      have := b5.1 (w0 hw)
      show ps5.re.own = 0 ∧ u0.en - u0.tick ≤ _
      rw [en0, t0]; exact this, fun hw => by
      have := b5.2 (w1 hw)
      show ps5.re.own = 1 ∧ u1.en - u1.tick ≤ _
      rw [en1, t1]; exact this⟩, z2 j6.s0, z3 j6.s1⟩
theorem f_new (L : Lay) : (PS.new L).F := ⟨⟨fun h => absurd h (not_works (.inr (.inr rfl))), fun h => absurd h (not_works (.inr (.inr rfl)))⟩, fun _ => rfl, fun _ => rfl⟩

/-- How far a unit that was Forced has come: up to its Tick; behind it. -/
def US.W1 (u : US) : Prop := u.mode = 4 ∨ u.mode = 0 ∨ (u.mode = 1 ∧ u.tick = 0)
def US.W2 (u : US) : Prop := u.mode = 4 ∨ u.mode = 0 ∨ u.mode = 1 ∨ (u.mode = 2 ∧ u.cp = none)
theorem US.W1.hapU {u : US} {j : Int} (h : u.W1) (e : Ev) : (hapU e j u).W1 := by
  unfold Go.Proofs.YtkplgggdidhnoaaGreatDoor.hapU
  split
  · split
    · exact .inr (.inl rfl)
    · split
      · unfold US.start
        split
        · exact .inr (.inr ⟨rfl, rfl⟩)
        · exact h
      · exact h
  · exact h
theorem US.W1.tk {u : US} (h : u.W1) : (u.tk false).W2 := by
  unfold US.tk
  split
  · rename_i h0; exact .inr (.inl h0)
  · rename_i hz
    split
    · rename_i h1
      have ht : u.tick = 0 := by rcases h with h | h | h <;> omega
      split
      · rename_i h3
        have h3' : 3 ≤ u.tick + 1 := h3
        omega
      · exact .inr (.inr (.inl h1))
    · split
      · exact .inr (.inr (.inr ⟨rfl, rfl⟩))
      · rename_i h1 _
        have h4 : u.mode = 4 := by rcases h with h | h | h <;> omega
        exact .inl h4
theorem US.W2.yld {u : US} (h : u.W2) : u.yld.W2 := by
  unfold US.yld
  split
  · rename_i h3
    rcases h with h | h | h | h <;> omega
  · exact h
theorem US.W2.ask {u u' : US} {re re' : St} {i : Int} {d : Bool} (h : u.W2) (k : AskRel u re i d u' re') : u'.W2 := by
  rcases k with ⟨_, rfl, rfl⟩ | ⟨_, hm, rfl, k⟩
  · exact h
  · rcases k with ⟨_, k⟩ | ⟨_, rfl⟩
    · rcases k with ⟨hw, _, rfl⟩ | ⟨_, x, hx, rfl⟩ | ⟨_, _, rfl⟩
      · exact h
      · rcases hx with rfl | ⟨h2, hc, _⟩
        · exact .inl rfl
        · have h2' : u.mode = 2 := h2
          have hc' : u.cp ≠ none := hc
          rcases h with h | h | h | h
          · omega
          · omega
          · omega
          · exact absurd h.2 hc'
      · exact h
    · exact h
/-- A Forced unit's cycles to go, and the cycles it was Forced. -/
def US.Q (u : US) (k : Int) : Prop := u.mode = 4 → 10 ≤ u.left + k
end Go.Proofs.YtkplgggdidhnoaaGreatDoor

namespace Go.Proofs.YtkplgggdidhnoaaGreatDoor
open Go.ChangeShapes Go.WideShapes Go.ChangeAt Go.RowKit
set_option linter.unusedVariables false

theorem US.Q.hapU {u : US} {k : Int} (h : u.Q k) (e : Ev) (j : Int) : (hapU e j u).Q k := by
  unfold Go.Proofs.YtkplgggdidhnoaaGreatDoor.hapU
  split
  · split
    · intro h4; have h5 : (0 : Int) = 4 := h4; omega
    · split
      · unfold US.start
        split
        · intro h4; have h5 : (1 : Int) = 4 := h4; omega
        · exact h
      · exact h
  · exact h
theorem US.Q.leave {u : US} {k : Int} : u.leave.Q k := fun h4 => by have h5 : (2 : Int) = 4 := h4; omega
theorem US.Q.tk {u : US} {k : Int} (h : u.Q k) (s : Bool) : (u.tk s).Q k := by
  unfold US.tk
  split
  · exact h
  · split
    · split
      · intro h4; have h5 : (2 : Int) = 4 := h4; omega
      · exact h
    · split
      · exact US.Q.leave
      · exact h
theorem US.Q.yld {u : US} {k : Int} (h : u.Q k) : u.yld.Q k := by
  unfold US.yld
  split
  · exact US.Q.leave
  · exact h
theorem US.Q.heard {u u' : US} {k : Int} {bs : List UInt8} (h : u.Q k) (r : US.HearR bs u u') : u'.Q k := by
  rcases r.1 with rfl | ⟨_, c, r, rfl⟩
  · exact h
  · exact h
theorem US.Q.ask {u u' : US} {re re' : St} {i k : Int} {d : Bool} (h : u.Q k) (hk : 0 ≤ k) (r : AskRel u re i d u' re') : u'.Q k := by
  rcases r with ⟨_, rfl, rfl⟩ | ⟨_, _, rfl, r⟩
  · exact h
  · rcases r with ⟨_, r⟩ | ⟨_, rfl⟩
    · rcases r with ⟨_, _, rfl⟩ | ⟨_, x, hx, rfl⟩ | ⟨_, _, rfl⟩
      · exact h
      · rcases hx with rfl | ⟨_, _, c, r, _, rfl⟩
        · intro _; show 10 ≤ (10 : Int) + k; omega
        · intro h4; have h5 : (3 : Int) = 4 := h4; omega
      · exact h
    · exact h
theorem US.Q.cyc {u u' : US} {k : Int} {L : Lay} {occ : List Bool} {lies : List Int} {on : Bool} {cs : List Cmd} {d : List Int} {q : List Bool} (h : u.Q k) (r : u.Cyc L occ lies on cs u' d q) : u'.Q (k + 1) := by
  rcases r with ⟨hn, rfl, _, _⟩ | ⟨h3, _, r2, _, rfl⟩
  · unfold US.cyc
    split
    · rename_i hw
      rw [if_neg (hn hw)]
      intro h4
      have h5 : (if u.left - 1 ≤ 0 then (3 : Int) else u.mode) = 4 := h4
      split at h5
      · omega
      · have := h h5
        show 10 ≤ u.left - 1 + (k + 1)
        omega
    · intro h4
      have := h h4
      omega
  · intro h4; have h5 : u.mode = 4 := h4; omega
theorem US.Q.act {u u' : US} {k : Int} {L : Lay} {occ : List Bool} {lies : List Int} {on : Bool} {cs : List Cmd} {d : List Int} {q : List Bool} (h : u.Q k) (w : u.W2) (r : u.Cyc L occ lies on cs u' d q) (h3 : u'.mode = 3) : 9 ≤ k := by
  have hm : u.mode ≠ 3 := by rcases w with w | w | w | w <;> omega
  rcases r with ⟨hn, rfl, _, _⟩ | ⟨h3', _⟩
  · unfold US.cyc at h3
    split at h3
    · rename_i hw
      have h4 : u.mode = 4 := by
        have := (Bool.and_eq_true_iff.1 hw).1
        unfold US.works at this
        simp [hm] at this
        exact this
      have h5 : (if u.left - 1 ≤ 0 then (3 : Int) else u.mode) = 3 := h3
      have h6 := h h4
      split at h5
      · omega
      · omega
    · exact absurd h3 hm
  · exact absurd h3' hm

/-- Unit 0, in one cycle. -/
theorem forced_run0 {n k : Int} {L : Lay} {es : List Ev} {ps ps' : PS} {d : List Int} {q : List Bool} (hi : ps.Inv n) (hf : ps.F) (hk : 0 ≤ k) (hq : ps.u0.Q k) (hs : ∀ e ∈ es, e.kind ≠ 3) (r : PS.Run L es ps ps' d q) :
    ps'.u0.Q (k + 1) ∧ (ps.u0.mode = 4 → ps'.u0.mode = 3 → 9 ≤ k) := by
  have hj : ps.J n n (2 * n) := hi
  have s0 : es.any (evB 3 0) = false := by
    rw [List.any_eq_false]
    intro e he
    have := hs e he
    simp [evB, this]
  obtain ⟨ps4, ps5, ps6, pts', ⟨ps2, ps3, k1, ⟨x0, x1, r0, r1, e3⟩, k3⟩, k5, ⟨u0, d0, q0, u1, d1, q1, c0, c1, e6, _, _⟩, _, y, e8, _⟩ := r.run
  have a2 : ps2.u0.Q k ∧ (ps.u0.mode = 4 → ps2.u0.W1) := PS.Fold.keep (P := fun x => x.u0.Q k ∧ (ps.u0.mode = 4 → x.u0.W1)) (fun e a b ha hb => by
    obtain ⟨e0, e1, _⟩ := hb
    rw [e0]
    exact ⟨ha.1.hapU e 0, fun h => (ha.2 h).hapU e⟩) (show ps.next.u0.Q k ∧ (ps.u0.mode = 4 → ps.next.u0.W1) from ⟨hq, fun h => .inl h⟩) k1
  rw [s0] at r0
  have a3 : ps3.u0.Q k ∧ (ps.u0.mode = 4 → ps3.u0.W2) := by
    rw [e3]
    refine ⟨(a2.1.tk false).heard r0, fun h => ?_⟩
    have hw : ps.u0.works = true := by unfold US.works; simp [h]
    have hno := US.Owns.alone hf.both.2 (hf.both.1 hw).1 (by decide)
    have hm : ps.u1.mode ≠ 3 := fun h3 => hno (by unfold US.works; simp [h3])
    have hc : ps2.ln.came 0 = [] := by
      rw [(hap_keep k1).2.1]
      exact hf.c0 hm
    have hx : x0 = ps2.u0.tk false := r0.2 hc
    show x0.W2
    rw [hx]
    exact (a2.2 h).tk
  have a4 : ps4.u0.Q k ∧ (ps.u0.mode = 4 → ps4.u0.W2) := PS.Fold.keep (P := fun x => x.u0.Q k ∧ (ps.u0.mode = 4 → x.u0.W2)) (fun e a b ha hb => by
    have hb' : b.u0 = a.u0 ∨ b.u0 = a.u0.yld := by
      unfold PS.Yl1 at hb
      split at hb
      · subst hb; exact .inr rfl
      · split at hb
        · subst hb; exact .inl rfl
        · subst hb; exact .inl rfl
    rcases hb' with h | h
    · rw [h]; exact ha
    · rw [h]; exact ⟨ha.1.yld, fun h => (ha.2 h).yld⟩) a3 k3
  have a5 : ps5.u0.Q k ∧ (ps.u0.mode = 4 → ps5.u0.W2) := by
    unfold PS.Asked at k5
    split at k5
    · obtain ⟨u0', re1, u1', re2, j0, j1, rfl⟩ := k5
      exact ⟨a4.1.ask hk j0, fun h => (a4.2 h).ask j0⟩
    · obtain ⟨u0', re1, u1', re2, j1, j0, rfl⟩ := k5
      exact ⟨a4.1.ask hk j0, fun h => (a4.2 h).ask j0⟩
  have e : ps'.u0 = u0 := by rw [e8, e6]
  rw [e]
  exact ⟨a5.1.cyc c0, fun h h3 => a5.1.act (a5.2 h) c0 h3⟩

/-- Unit 1, in one cycle. -/
theorem forced_run1 {n k : Int} {L : Lay} {es : List Ev} {ps ps' : PS} {d : List Int} {q : List Bool} (hi : ps.Inv n) (hf : ps.F) (hk : 0 ≤ k) (hq : ps.u1.Q k) (hs : ∀ e ∈ es, e.kind ≠ 3) (r : PS.Run L es ps ps' d q) :
    ps'.u1.Q (k + 1) ∧ (ps.u1.mode = 4 → ps'.u1.mode = 3 → 9 ≤ k) := by
  have hj : ps.J n n (2 * n) := hi
  have s0 : es.any (evB 3 1) = false := by
    rw [List.any_eq_false]
    intro e he
    have := hs e he
    simp [evB, this]
  obtain ⟨ps4, ps5, ps6, pts', ⟨ps2, ps3, k1, ⟨x0, x1, r0, r1, e3⟩, k3⟩, k5, ⟨u0, d0, q0, u1, d1, q1, c0, c1, e6, _, _⟩, _, y, e8, _⟩ := r.run
  have a2 : ps2.u1.Q k ∧ (ps.u1.mode = 4 → ps2.u1.W1) := PS.Fold.keep (P := fun x => x.u1.Q k ∧ (ps.u1.mode = 4 → x.u1.W1)) (fun e a b ha hb => by
    obtain ⟨e0, e1, _⟩ := hb
    rw [e1]
    exact ⟨ha.1.hapU e 1, fun h => (ha.2 h).hapU e⟩) (show ps.next.u1.Q k ∧ (ps.u1.mode = 4 → ps.next.u1.W1) from ⟨hq, fun h => .inl h⟩) k1
  rw [s0] at r1
  have a3 : ps3.u1.Q k ∧ (ps.u1.mode = 4 → ps3.u1.W2) := by
    rw [e3]
    refine ⟨(a2.1.tk false).heard r1, fun h => ?_⟩
    have hw : ps.u1.works = true := by unfold US.works; simp [h]
    have hno := US.Owns.alone hf.both.1 (hf.both.2 hw).1 (by decide)
    have hm : ps.u0.mode ≠ 3 := fun h3 => hno (by unfold US.works; simp [h3])
    have hc : ps2.ln.came 1 = [] := by
      rw [(hap_keep k1).2.1]
      exact hf.c1 hm
    have hx : x1 = ps2.u1.tk false := r1.2 hc
    show x1.W2
    rw [hx]
    exact (a2.2 h).tk
  have a4 : ps4.u1.Q k ∧ (ps.u1.mode = 4 → ps4.u1.W2) := PS.Fold.keep (P := fun x => x.u1.Q k ∧ (ps.u1.mode = 4 → x.u1.W2)) (fun e a b ha hb => by
    have hb' : b.u1 = a.u1 ∨ b.u1 = a.u1.yld := by
      unfold PS.Yl1 at hb
      split at hb
      · subst hb; exact .inl rfl
      · split at hb
        · subst hb; exact .inr rfl
        · subst hb; exact .inl rfl
    rcases hb' with h | h
    · rw [h]; exact ha
    · rw [h]; exact ⟨ha.1.yld, fun h => (ha.2 h).yld⟩) a3 k3
  have a5 : ps5.u1.Q k ∧ (ps.u1.mode = 4 → ps5.u1.W2) := by
    unfold PS.Asked at k5
    split at k5
    · obtain ⟨u0', re1, u1', re2, j0, j1, rfl⟩ := k5
      exact ⟨a4.1.ask hk j1, fun h => (a4.2 h).ask j1⟩
    · obtain ⟨u0', re1, u1', re2, j1, j0, rfl⟩ := k5
      exact ⟨a4.1.ask hk j1, fun h => (a4.2 h).ask j1⟩
  have e : ps'.u1 = u1 := by rw [e8, e6]
  rw [e]
  exact ⟨a5.1.cyc c1, fun h h3 => a5.1.act (a5.2 h) c1 h3⟩
end Go.Proofs.YtkplgggdidhnoaaGreatDoor

namespace Go.Proofs.YtkplgggdidhnoaaGreatDoor
open Go.ChangeShapes Go.WideShapes Go.ChangeAt Go.RowKit
set_option linter.unusedVariables false

set_option maxHeartbeats 4000000 in
theorem slow_any (B : Nat → Prop) (w : World) (v : Value) (evs : List (List Ev × Value)) (h : EvsAt B w v evs) :
    Calls Tryz.prog 17 #[v] w fun r w' => ∃ b : Bool, r = .returned (.bool b) ∧ (b = false → ∀ (i : Nat) (hi : i < evs.length), i < 90 → ∀ e ∈ evs[i].1, e.kind ≠ 3) ∧ w' = w := by
  have HE := Lib.hid h
  obtain ⟨a, c, rfl, -, -, -, -⟩ := id h.1
  clear h
  go_enter Tryz.func17, Tryz.ntmps17
  go_wp2_with fail
  go_loopw [3] (fun i wr => ∃ j : Nat, j ≤ evs.length ∧ j ≤ 90 ∧ i = .int .i64 j ∧ wr = w ∧ Hid (∀ (k : Nat) (hk : k < evs.length), k < j → ∀ e ∈ evs[k].1, e.kind ≠ 3)) (fun i _ => (evs.length - intOf i).toNat)
  case atStart => exact ⟨0, by omega, by omega, rfl, rfl, fun k _ hk => by omega⟩
  case round =>
    obtain ⟨j, hj, hj9, rfl, rfl, HN⟩ := hrel
    by_cases hjl : j < evs.length ∧ j < 90
    · obtain ⟨hjl, hjm⟩ := hjl
      have hj1 : (j : Int) < evs.length := by omega
      have hj2 : (j : Int) < 90 := by omega
      have hj0 : (0 : Int) ≤ j := by omega
      obtain ⟨b, off, rfl, -, hbw, hat⟩ := HE.out.1.at (f := fEvs) (C := 1) (fun _ => rfl) (by omega) hjl
      have y0 : wr.cell? ⟨b, off + j, none⟩ = some evs[j].2 := by have := hat 0 (by omega); rw [Nat.mul_one] at this; exact this
      have hxs := HE.out.2 evs[j] (List.getElem_mem hjl)
      have HX := Lib.hid hxs
      obtain ⟨ay, cy, ey, q1, q2, -, -⟩ := hxs
      have HM : Hid (evs[j].1.length ≤ 9223372036854775807) := Nat.le_trans q1 q2
      clear q1 q2
      rw [ey] at y0
      have HY := Lib.hid ey
      clear hat ey
      have HL : Hid (∀ k, k < evs[j].1.length → (k : Int) < evs[j].1.length) := fun k h => by omega
      obtain ⟨es, hes⟩ : ∃ es, es = evs[j].1 := ⟨_, rfl⟩
      rw [← hes] at HX HY HL HM
      rw [← hes] at y0
      have HEs := Lib.hid hes
      clear hes
      go_wp2_with fail
      go_loopw [4] (fun i wq => ∃ k : Nat, k ≤ es.length ∧ i = .int .i64 k ∧ Ch Noone wr wq ∧ wq = wr ∧ Hid (∀ e ∈ es.take k, e.kind ≠ 3)) (fun i _ => (es.length - intOf i).toNat)
      case atStart => exact ⟨0, Nat.zero_le _, rfl, Ch.refl _ _, rfl, fun e he => by simp at he⟩
      case round =>
        obtain ⟨k, hk, rfl, hch, rfl, HK⟩ := hrel
        by_cases hkl : k < es.length
        · have hk1 : (k : Int) < es.length := by omega
          have hk0 : (0 : Int) ≤ k := by omega
          have hx := HX.out
          rw [HY.out] at hx
          obtain ⟨b2, off2, e2, -, hb2, hat⟩ := hx.at (f := fEv) (C := 5) (fun _ => rfl) (by omega) hkl
          subst e2
          have z0 : wr.cell? ⟨b2, off2 + k * 5, none⟩ = some (.int .i64 es[k].kind) := hat 0 (by omega)
          have HTk : Hid (es.take (k + 1) = es.take k ++ [es[k]]) := List.take_succ_eq_append_getElem hkl
          clear hat hx
          generalize es[k] = e at *
          by_cases h3 : e.kind = 3
          · rw [h3] at z0
            clear h3
            go_wp2_with fail
            go_ret
            exact ⟨true, rfl, (fun h => by cases h), rfl⟩
          · have h3' : (e.kind == 3) = false := by simpa using h3
            have H3 := Lib.hid h3
            clear h3
            go_wp2_with fail
            have hw : wrap64 ((k : Int) + 1) = (k : Int) + 1 := by unfold wrap64; have := HM.out; omega
            rw [hw]
            go_roundw
            case rel => exact ⟨k + 1, by omega, by go_num, Ch.refl _ _, trivial, fun x hx => by
              rw [HTk.out] at hx
              rcases List.mem_append.1 hx with h | h
              · exact HK.out x h
              · simp only [List.mem_singleton] at h
                rw [h]; exact H3.out⟩
            case measure => simp [intOf]; omega
        · have hkx : (es.length : Int) ≤ k := by omega
          go_wp2_with fail
          go_roundw
          case rel => exact ⟨j + 1, by omega, by omega, by go_num, trivial, fun q hq hlt x hx => by
            by_cases hqj : q = j
            · subst hqj
              rw [← HEs.out] at hx
              exact HK.out x (by rw [List.take_of_length_le (by omega)]; exact hx)
            · exact HN.out q hq (by omega) x hx⟩
          case measure => simp [intOf]; omega
    · have hjx : (evs.length : Int) ≤ j ∨ ((j : Int) < evs.length ∧ (90 : Int) ≤ j) := by omega
      have HJ : Hid (evs.length ≤ j ∨ 90 ≤ j) := by show _ ∨ _; omega
      clear hjl
      rcases hjx with hjx | ⟨hjx, hjy⟩
      all_goals
        go_wp2_with fail
        go_ret
        exact ⟨false, rfl, fun _ k hk h9 => HN.out k hk (by have := HJ.out; omega), rfl⟩
end Go.Proofs.YtkplgggdidhnoaaGreatDoor
