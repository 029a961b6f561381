/-
  The Pair: words for its memory, and how a step of one part leaves the others. Condition: none. The contracts of pair: at, Mode, Connected, Now; what a unit that is not there does. Condition: none. The contract of pair.of: is there an event of a kind, of a unit. Conditions: sizes. The contract of pair: happens. Conditions: sizes. The contract of pair: yields. Conditions: sizes.
-/
import Derived.Test.YtkplgggdidhnoaaGreatDoorM14
import Derived.Test.YtkplgggdidhnoaaGreatDoorM15
import Derived.Test.YtkplgggdidhnoaaGreatDoorM16
import Derived.Test.YtkplgggdidhnoaaGreatDoorM02
import Derived.Test.YtkplgggdidhnoaaGreatDoorM03
import Derived.Test.YtkplgggdidhnoaaGreatDoorM11
namespace Go.Proofs.YtkplgggdidhnoaaGreatDoor
open Go.ChangeShapes Go.WideShapes Go.ChangeAt Go.RowKit
set_option linter.unusedVariables false

/-- What a Pair holds, but for its Locks. -/
structure PS where
  u0 : US
  u1 : US
  re : St
  ln : LS
  occ : List Bool
  pts : List Pt
  now : Int

/-- The parts of a Pair: m tells whose a block is: 0 the pair's own, 1 the relay's, 2 the link's, 3 the field's, 4 the lock's, 5 and 6 the units'; more: of others. -/
structure PairP (m : Nat → Nat) (w : World) (p a0 a1 r k f s : Nat) (L : Lay) (ps : PS) : Prop where
  mp : m p = 0
  mr : m r = 1
  blk : Blk w p 73 #[.pointer (some ⟨a0, 0, none⟩), .pointer (some ⟨a1, 0, none⟩), .pointer (some ⟨r, 0, none⟩), .pointer (some ⟨k, 0, none⟩), .pointer (some ⟨f, 0, none⟩), .pointer (some ⟨s, 0, none⟩), .int .i64 ps.now]
  relay : RelayAt w r ps.re
  link : LinkAt (fun g => m g = 2) w k ps.ln
  field : FieldAt (fun g => m g = 3) w f ps.occ ps.pts
  safe : ∃ rs, LockAt (fun g => m g = 4) w s L rs
  u0 : ∃ rs, UnitAt (fun g => m g = 5) w a0 L ps.u0 rs
  u1 : ∃ rs, UnitAt (fun g => m g = 6) w a1 L ps.u1 rs
  ol : ps.occ.length = L.secs.length
  pl : ps.pts.length = L.pts.length
  pk : ∀ p ∈ ps.pts, 0 ≤ p.steps ∧ p.steps ≤ 1000

def Agree (w : World) (m m' : Nat → Nat) : Prop := ∀ g, g < w.heap.size → m' g = m g
theorem Agree.lab (w : World) (m : Nat → Nat) (k : Nat) : Agree w m (lab m w.heap.size k) := fun g hg => lab_lt hg
theorem Agree.refl (w : World) (m : Nat → Nat) : Agree w m m := fun _ _ => rfl
theorem Agree.trans {w w1 : World} {m m1 m2 : Nat → Nat} (h : Agree w m m1) (h1 : Agree w1 m1 m2) (hs : w.heap.size ≤ w1.heap.size) : Agree w m m2 := fun g hg => (h1 g (by omega)).trans (h g hg)

section
variable {m : Nat → Nat} {w w' : World} {i j : Nat}
theorem tr_link {b : Nat} {x : LS} (h : LinkAt (fun g => m g = j) w b x) (c : Ch (fun g => m g = i) w w') (hij : i ≠ j) (l : Nat) : LinkAt (fun g => lab m w.heap.size l g = j) w' b x :=
  ((h.mono (O' := fun g => m g = j ∧ g < w.heap.size) fun g hg hl => ⟨hg, hl⟩).ch c fun g hg _ hS => hij (hS.symm.trans hg.1)).mono fun g hg _ => (lab_lt hg.2).trans hg.1
theorem tr_field {b : Nat} {o : List Bool} {x : List Pt} (h : FieldAt (fun g => m g = j) w b o x) (c : Ch (fun g => m g = i) w w') (hij : i ≠ j) (l : Nat) : FieldAt (fun g => lab m w.heap.size l g = j) w' b o x :=
  ((h.mono (O' := fun g => m g = j ∧ g < w.heap.size) fun g hg hl => ⟨hg, hl⟩).ch c fun g hg _ hS => hij (hS.symm.trans hg.1)).mono fun g hg _ => (lab_lt hg.2).trans hg.1
theorem tr_lock {b : Nat} {L : Lay} (h : ∃ rs, LockAt (fun g => m g = j) w b L rs) (c : Ch (fun g => m g = i) w w') (hij : i ≠ j) (l : Nat) : ∃ rs, LockAt (fun g => lab m w.heap.size l g = j) w' b L rs := by
  obtain ⟨rs, h⟩ := h
  exact ⟨rs, ((h.mono (O' := fun g => m g = j ∧ g < w.heap.size) fun g hg hl => ⟨hg, hl⟩).ch c fun g hg _ hS => hij (hS.symm.trans hg.1)).mono fun g hg _ => (lab_lt hg.2).trans hg.1⟩
theorem tr_unit {b : Nat} {L : Lay} {us : US} (h : ∃ rs, UnitAt (fun g => m g = j) w b L us rs) (c : Ch (fun g => m g = i) w w') (hij : i ≠ j) (l : Nat) : ∃ rs, UnitAt (fun g => lab m w.heap.size l g = j) w' b L us rs := by
  obtain ⟨rs, h⟩ := h
  exact ⟨rs, ((h.mono (O' := fun g => m g = j ∧ g < w.heap.size) fun g hg hl => ⟨hg, hl⟩).ch c fun g hg _ hS => hij (hS.symm.trans hg.1)).mono fun g hg _ => (lab_lt hg.2).trans hg.1⟩
theorem gr_lab {g : Nat} (h : Gr (fun g => m g = i) w g) : lab m w.heap.size i g = i := by
  rcases h with h | h
  · by_cases hg : g < w.heap.size
    · exact (lab_lt hg).trans h
    · exact lab_ge (by omega)
  · exact lab_ge h
end

section
variable {m : Nat → Nat} {w w' : World} {p a0 a1 r k f s : Nat} {L : Lay} {ps : PS}
theorem Ch.no {i : Nat} (c : Ch Noone w w') : Ch (fun g => m g = i) w w' := c.mono fun _ _ h => h.elim
/-- Nothing of the pair has turned. -/
theorem PairP.pure (h : PairP m w p a0 a1 r k f s L ps) (c : Ch Noone w w') : PairP (lab m w.heap.size 9) w' p a0 a1 r k f s L ps :=
  ⟨(lab_lt h.blk.lt).trans h.mp, (lab_lt (Blk.lt h.relay)).trans h.mr, c.blk h.blk (fun h => h), c.blk h.relay (fun h => h), tr_link h.link (c.no (i := 9)) (by decide) 9, tr_field h.field (c.no (i := 9)) (by decide) 9, tr_lock h.safe (c.no (i := 9)) (by decide) 9, tr_unit h.u0 (c.no (i := 9)) (by decide) 9, tr_unit h.u1 (c.no (i := 9)) (by decide) 9, h.ol, h.pl, h.pk⟩
/-- Nothing of the pair has turned, but what is of others may have. -/
theorem PairP.pure9 (h : PairP m w p a0 a1 r k f s L ps) (c : Ch (fun g => m g = 9) w w') : PairP (lab m w.heap.size 9) w' p a0 a1 r k f s L ps :=
  ⟨(lab_lt h.blk.lt).trans h.mp, (lab_lt (Blk.lt h.relay)).trans h.mr, c.blk h.blk (by rw [h.mp]; decide), c.blk h.relay (by rw [h.mr]; decide), tr_link h.link c (by decide) 9, tr_field h.field c (by decide) 9, tr_lock h.safe c (by decide) 9, tr_unit h.u0 c (by decide) 9, tr_unit h.u1 c (by decide) 9, h.ol, h.pl, h.pk⟩
theorem PairP.stepU0o (h : PairP m w p a0 a1 r k f s L ps) (c : Ch (fun g => m g = 5) w w') {u : US} (hu : ∃ rs, UnitAt (fun g => m g = 5 ∧ g < w.heap.size) w' a0 L u rs) : PairP (lab m w.heap.size 9) w' p a0 a1 r k f s L { ps with u0 := u } :=
  ⟨(lab_lt h.blk.lt).trans h.mp, (lab_lt (Blk.lt h.relay)).trans h.mr, c.blk h.blk (by rw [h.mp]; decide), c.blk h.relay (by rw [h.mr]; decide), tr_link h.link c (by decide) 9, tr_field h.field c (by decide) 9, tr_lock h.safe c (by decide) 9, by obtain ⟨rs, hu⟩ := hu; exact ⟨rs, hu.mono fun g hg _ => (lab_lt hg.2).trans hg.1⟩, tr_unit h.u1 c (by decide) 9, h.ol, h.pl, h.pk⟩
theorem PairP.stepU1o (h : PairP m w p a0 a1 r k f s L ps) (c : Ch (fun g => m g = 6) w w') {u : US} (hu : ∃ rs, UnitAt (fun g => m g = 6 ∧ g < w.heap.size) w' a1 L u rs) : PairP (lab m w.heap.size 9) w' p a0 a1 r k f s L { ps with u1 := u } :=
  ⟨(lab_lt h.blk.lt).trans h.mp, (lab_lt (Blk.lt h.relay)).trans h.mr, c.blk h.blk (by rw [h.mp]; decide), c.blk h.relay (by rw [h.mr]; decide), tr_link h.link c (by decide) 9, tr_field h.field c (by decide) 9, tr_lock h.safe c (by decide) 9, tr_unit h.u0 c (by decide) 9, by obtain ⟨rs, hu⟩ := hu; exact ⟨rs, hu.mono fun g hg _ => (lab_lt hg.2).trans hg.1⟩, h.ol, h.pl, h.pk⟩
theorem PairP.stepU0 (h : PairP m w p a0 a1 r k f s L ps) (c : Ch (fun g => m g = 5) w w') {u : US} (hu : ∃ rs, UnitAt (Gr (fun g => m g = 5) w) w' a0 L u rs) : PairP (lab m w.heap.size 5) w' p a0 a1 r k f s L { ps with u0 := u } :=
  ⟨(lab_lt h.blk.lt).trans h.mp, (lab_lt (Blk.lt h.relay)).trans h.mr, c.blk h.blk (by rw [h.mp]; decide), c.blk h.relay (by rw [h.mr]; decide), tr_link h.link c (by decide) 5, tr_field h.field c (by decide) 5, tr_lock h.safe c (by decide) 5, by obtain ⟨rs, hu⟩ := hu; exact ⟨rs, hu.mono fun g hg _ => gr_lab hg⟩, tr_unit h.u1 c (by decide) 5, h.ol, h.pl, h.pk⟩
theorem PairP.stepU1 (h : PairP m w p a0 a1 r k f s L ps) (c : Ch (fun g => m g = 6) w w') {u : US} (hu : ∃ rs, UnitAt (Gr (fun g => m g = 6) w) w' a1 L u rs) : PairP (lab m w.heap.size 6) w' p a0 a1 r k f s L { ps with u1 := u } :=
  ⟨(lab_lt h.blk.lt).trans h.mp, (lab_lt (Blk.lt h.relay)).trans h.mr, c.blk h.blk (by rw [h.mp]; decide), c.blk h.relay (by rw [h.mr]; decide), tr_link h.link c (by decide) 6, tr_field h.field c (by decide) 6, tr_lock h.safe c (by decide) 6, tr_unit h.u0 c (by decide) 6, by obtain ⟨rs, hu⟩ := hu; exact ⟨rs, hu.mono fun g hg _ => gr_lab hg⟩, h.ol, h.pl, h.pk⟩
theorem PairP.stepField (h : PairP m w p a0 a1 r k f s L ps) (c : Ch (fun g => m g = 3) w w') {occ : List Bool} {pts : List Pt} (hf : FieldAt (Gr (fun g => m g = 3) w) w' f occ pts) (h1 : occ.length = ps.occ.length) (h2 : pts.length = ps.pts.length) (h3 : ∀ p ∈ pts, 0 ≤ p.steps ∧ p.steps ≤ 1000) :
    PairP (lab m w.heap.size 3) w' p a0 a1 r k f s L { ps with occ := occ, pts := pts } :=
  ⟨(lab_lt h.blk.lt).trans h.mp, (lab_lt (Blk.lt h.relay)).trans h.mr, c.blk h.blk (by rw [h.mp]; decide), c.blk h.relay (by rw [h.mr]; decide), tr_link h.link c (by decide) 3, hf.mono fun g hg _ => gr_lab hg, tr_lock h.safe c (by decide) 3, tr_unit h.u0 c (by decide) 3, tr_unit h.u1 c (by decide) 3, h1.trans h.ol, h2.trans h.pl, h3⟩
theorem PairP.stepLink (h : PairP m w p a0 a1 r k f s L ps) (c : Ch (fun g => m g = 2) w w') {x : LS} (hf : LinkAt (Gr (fun g => m g = 2) w) w' k x) : PairP (lab m w.heap.size 2) w' p a0 a1 r k f s L { ps with ln := x } :=
  ⟨(lab_lt h.blk.lt).trans h.mp, (lab_lt (Blk.lt h.relay)).trans h.mr, c.blk h.blk (by rw [h.mp]; decide), c.blk h.relay (by rw [h.mr]; decide), hf.mono fun g hg _ => gr_lab hg, tr_field h.field c (by decide) 2, tr_lock h.safe c (by decide) 2, tr_unit h.u0 c (by decide) 2, tr_unit h.u1 c (by decide) 2, h.ol, h.pl, h.pk⟩
theorem PairP.stepRelay (h : PairP m w p a0 a1 r k f s L ps) (c : Ch (fun g => g = r) w w') {x : St} (hf : RelayAt w' r x) : PairP (lab m w.heap.size 1) w' p a0 a1 r k f s L { ps with re := x } := by
  have c1 : Ch (fun g => m g = 1) w w' := c.mono fun g _ e => e ▸ h.mr
  exact ⟨(lab_lt h.blk.lt).trans h.mp, (lab_lt (Blk.lt h.relay)).trans h.mr, c1.blk h.blk (by rw [h.mp]; decide), hf, tr_link h.link c1 (by decide) 1, tr_field h.field c1 (by decide) 1, tr_lock h.safe c1 (by decide) 1, tr_unit h.u0 c1 (by decide) 1, tr_unit h.u1 c1 (by decide) 1, h.ol, h.pl, h.pk⟩
theorem PairP.stepNow (h : PairP m w p a0 a1 r k f s L ps) (n : Int) : PairP (lab m w.heap.size 0) (w.setCell ⟨p, 6, none⟩ (.int .i64 n)) p a0 a1 r k f s L { ps with now := n } := by
  have c1 : Ch (fun g => m g = 0) w (w.setCell ⟨p, 6, none⟩ (.int .i64 n)) := Ch.set (S := fun g => m g = 0) (Ch.refl _ w) (b := p) (fun _ => h.mp) 6 (.int .i64 n)
  exact ⟨(lab_lt h.blk.lt).trans h.mp, (lab_lt (Blk.lt h.relay)).trans h.mr, by have := h.blk.set 6 (.int .i64 n); simpa using this, c1.blk h.relay (by rw [h.mr]; decide), tr_link h.link c1 (by decide) 0, tr_field h.field c1 (by decide) 0, tr_lock h.safe c1 (by decide) 0, tr_unit h.u0 c1 (by decide) 0, tr_unit h.u1 c1 (by decide) 0, h.ol, h.pl, h.pk⟩
theorem PairP.drewN (h : PairP m w p a0 a1 r k f s L ps) (n : Nat) : PairP m (w.drewN n) p a0 a1 r k f s L ps :=
  ⟨h.mp, h.mr, h.blk, h.relay, h.link.ch ((Ch.refl Noone w).drewN n) fun _ _ _ h => h, h.field.ch ((Ch.refl Noone w).drewN n) fun _ _ _ h => h, by obtain ⟨rs, h⟩ := h.safe; exact ⟨rs, h.ch ((Ch.refl Noone w).drewN n) fun _ _ _ h => h⟩, by obtain ⟨rs, h⟩ := h.u0; exact ⟨rs, h.ch ((Ch.refl Noone w).drewN n) fun _ _ _ h => h⟩, by obtain ⟨rs, h⟩ := h.u1; exact ⟨rs, h.ch ((Ch.refl Noone w).drewN n) fun _ _ _ h => h⟩, h.ol, h.pl, h.pk⟩
theorem PairP.cells (h : PairP m w p a0 a1 r k f s L ps) : w.cell? ⟨p, 0, none⟩ = some (.pointer (some ⟨a0, 0, none⟩)) ∧ w.cell? ⟨p, 1, none⟩ = some (.pointer (some ⟨a1, 0, none⟩)) ∧ w.cell? ⟨p, 2, none⟩ = some (.pointer (some ⟨r, 0, none⟩)) ∧ w.cell? ⟨p, 3, none⟩ = some (.pointer (some ⟨k, 0, none⟩)) ∧
    w.cell? ⟨p, 4, none⟩ = some (.pointer (some ⟨f, 0, none⟩)) ∧ w.cell? ⟨p, 5, none⟩ = some (.pointer (some ⟨s, 0, none⟩)) ∧ w.cell? ⟨p, 6, none⟩ = some (.int .i64 ps.now) := h.blk.cells7
end
/-- The blocks of a pair. -/
def Mine (m : Nat → Nat) : Nat → Prop := fun g => m g ≤ 6
theorem Ch.mine {m : Nat → Nat} {w w' : World} {i : Nat} (c : Ch (fun g => m g = i) w w') (hi : i ≤ 6) : Ch (Mine m) w w' := c.mono fun g _ e => by show m g ≤ 6; rw [e]; exact hi
/-- What was a step of the pair behind a step of the pair. -/
theorem Ch.next {m m1 : Nat → Nat} {w w1 w2 : World} (c : Ch (Mine m) w w1) (a : Agree w m m1) (c' : Ch (Mine m1) w1 w2) : Ch (Mine m) w w2 := c.then c' fun g hg h => by
  have h' : m1 g ≤ 6 := h
  rw [a g hg] at h'
  exact h'
/-- What the pair does not own stays. -/
theorem Sl.keep {m m1 : Nat → Nat} {w w1 : World} {v : Value} {n : Nat} {vs : List Value} (h : Sl (fun g => m g = 9) w v n vs) (c : Ch (Mine m) w w1) (a : Agree w m m1) : Sl (fun g => m1 g = 9) w1 v n vs :=
  ((h.mono (B' := fun g => m g = 9 ∧ g < w.heap.size) fun g hg hl => ⟨hg, hl⟩).ch c fun g hg _ h => by have h' : m g ≤ 6 := h; have := hg.1; omega).mono fun g hg _ => (a g hg.2).trans hg.1
end Go.Proofs.YtkplgggdidhnoaaGreatDoor

namespace Go.Proofs.YtkplgggdidhnoaaGreatDoor
open Go.ChangeShapes Go.WideShapes Go.ChangeAt Go.RowKit
set_option linter.unusedVariables false

/-- The unit of a number; nil: none. -/
def unitPtr (a0 a1 : Nat) (i : Int) : Value := if i = 0 then .pointer (some ⟨a0, 0, none⟩) else if i = 1 then .pointer (some ⟨a1, 0, none⟩) else .pointer none

section
variable {m : Nat → Nat} {w : World} {p a0 a1 r k f s : Nat} {L : Lay} {ps : PS}
theorem pair_at (h : PairP m w p a0 a1 r k f s L ps) (i : Int) :
    Calls Tryz.prog 42 #[.pointer (some ⟨p, 0, none⟩), .int .i64 i] w fun e w' => e = .returned (unitPtr a0 a1 i) ∧ w' = w := by
  obtain ⟨l0, l1, -, -, -, -, -⟩ := h.cells
  clear h
  by_cases h0 : i = 0
  · subst h0
    go_enter Tryz.func42, Tryz.ntmps42
    go_wp2_with fail
    go_ret
    exact ⟨rfl, rfl⟩
  · by_cases h1 : i = 1
    · subst h1
      go_enter Tryz.func42, Tryz.ntmps42
      go_wp2_with fail
      go_ret
      exact ⟨rfl, rfl⟩
    · have HU : Hid (unitPtr a0 a1 i = .pointer none) := by unfold Hid unitPtr; rw [if_neg h0, if_neg h1]
      rw [HU.out]
      have hi : i < 0 ∨ (0 ≤ i ∧ 2 ≤ i) := by omega
      clear h0 h1
      rcases hi with hi | ⟨hi, hi'⟩
      all_goals
        go_enter Tryz.func42, Tryz.ntmps42
        go_wp2_with fail
        go_ret
        exact ⟨rfl, rfl⟩

theorem crash_nil (w : World) : Calls Tryz.prog 48 #[.pointer none] w fun e w' => e = .returned (.tuple #[]) ∧ w' = w := by
  go_enter Tryz.func48, Tryz.ntmps48
  go_wp2_with fail
  (try simp only [Exit.inBlock, Exit.then])
  refine bodyPost_ret (results_none rfl _ _ _) rfl ?_
  exact ⟨rfl, rfl⟩
theorem start_nil (w : World) : Calls Tryz.prog 49 #[.pointer none] w fun e w' => (∃ x : Int, e = .returned (.int .i64 x)) ∧ w' = w := by
  go_enter Tryz.func49, Tryz.ntmps49
  go_wp2_with fail
  go_ret
  exact ⟨⟨_, rfl⟩, rfl⟩
theorem yield_nil (w : World) : Calls Tryz.prog 63 #[.pointer none] w fun e w' => e = .returned (.bool false) ∧ w' = w := by
  go_enter Tryz.func63, Tryz.ntmps63
  go_wp2_with fail
  go_ret
  exact ⟨rfl, rfl⟩

theorem pair_mode0 (h : PairP m w p a0 a1 r k f s L ps) :
    Calls Tryz.prog 18 #[.pointer (some ⟨p, 0, none⟩), .int .i64 0] w fun e w' => e = .returned (.int .i64 ps.u0.mode) ∧ w' = w := by
  obtain ⟨rs, hu⟩ := h.u0
  have HA := Lib.hid (pair_at h 0)
  have HM := Lib.hid (unit_mode _ _ _ _ _ _ hu)
  clear h hu
  go_enter Tryz.func18, Tryz.ntmps18
  go_wp2_with fail
  refine HA.out.mono ?_
  rintro e w1 ⟨rfl, rfl⟩
  go_wp2_with fail
  refine HM.out.mono ?_
  rintro e w2 ⟨rfl, rfl⟩
  go_wp2_with fail
  go_ret
  exact ⟨rfl, rfl⟩
theorem pair_mode1 (h : PairP m w p a0 a1 r k f s L ps) :
    Calls Tryz.prog 18 #[.pointer (some ⟨p, 0, none⟩), .int .i64 1] w fun e w' => e = .returned (.int .i64 ps.u1.mode) ∧ w' = w := by
  obtain ⟨rs, hu⟩ := h.u1
  have HA := Lib.hid (pair_at h 1)
  have HM := Lib.hid (unit_mode _ _ _ _ _ _ hu)
  clear h hu
  go_enter Tryz.func18, Tryz.ntmps18
  go_wp2_with fail
  refine HA.out.mono ?_
  rintro e w1 ⟨rfl, rfl⟩
  go_wp2_with fail
  refine HM.out.mono ?_
  rintro e w2 ⟨rfl, rfl⟩
  go_wp2_with fail
  go_ret
  exact ⟨rfl, rfl⟩
theorem pair_con (h : PairP m w p a0 a1 r k f s L ps) :
    Calls Tryz.prog 10 #[.pointer (some ⟨p, 0, none⟩)] w fun e w' => e = .returned (.int .i64 ps.re.con) ∧ w' = w := by
  obtain ⟨-, -, l2, -, -, -, -⟩ := h.cells
  have HC := Lib.hid (relay_con _ _ _ h.relay)
  clear h
  go_enter Tryz.func10, Tryz.ntmps10
  go_wp2_with fail
  refine HC.out.mono ?_
  rintro e w1 ⟨rfl, rfl⟩
  go_wp2_with fail
  go_ret
  exact ⟨rfl, rfl⟩
theorem pair_now (h : PairP m w p a0 a1 r k f s L ps) :
    Calls Tryz.prog 39 #[.pointer (some ⟨p, 0, none⟩)] w fun e w' => e = .returned (.int .i64 ps.now) ∧ w' = w := by
  obtain ⟨-, -, -, -, -, -, l6⟩ := h.cells
  clear h
  go_enter Tryz.func39, Tryz.ntmps39
  go_wp2_with fail
  go_ret
  exact ⟨rfl, rfl⟩
end
end Go.Proofs.YtkplgggdidhnoaaGreatDoor

namespace Go.Proofs.YtkplgggdidhnoaaGreatDoor
open Go.ChangeShapes Go.WideShapes Go.ChangeAt Go.RowKit
set_option linter.unusedVariables false

def evB (k i : Int) (e : Ev) : Bool := e.kind == k && e.unit == i

theorem of1_any (w : World) (e : Ev) (k i : Int) (b1 b2 : Nat) (h1 : w.cell? ⟨b1, 0, none⟩ = some (.int .i64 k)) (h2 : w.cell? ⟨b2, 0, none⟩ = some (.int .i64 i)) (l1 : b1 < w.heap.size) (l2 : b2 < w.heap.size) :
    Calls Tryz.prog 56 #[.agg #[.int .i64 e.kind, .int .i64 e.unit, .int .i64 e.n, .int .i64 e.ck, .int .i64 e.cr], .pointer (some ⟨b1, 0, none⟩), .pointer (some ⟨b2, 0, none⟩)] w fun r w' => r = .returned (.bool (evB k i e)) ∧ Ch Noone w w' := by
  obtain ⟨ek, eu, en, ec, er⟩ := e
  dsimp only
  unfold evB
  dsimp only
  by_cases h : ek = k
  · have h' : (ek == k) = true := by simpa using h
    rw [h']
    clear h
    go_enter Tryz.func56, Tryz.ntmps56
    go_wp2_with fail
    go_ret
    exact ⟨by simp, (Ch.refl _ _).alloc _⟩
  · have h' : (ek == k) = false := by simpa using h
    rw [h']
    clear h
    go_enter Tryz.func56, Tryz.ntmps56
    go_wp2_with fail
    go_ret
    exact ⟨by simp, (Ch.refl _ _).alloc _⟩

set_option maxRecDepth 100000 in
set_option maxHeartbeats 2000000 in
theorem indexFunc_ev (B : Nat → Prop) (w : World) (v : Value) (es : List Ev) (k i : Int) (b1 b2 : Nat) (hv : Sl B w v es.length (es.flatMap fEv)) (hl : es.length ≤ 1000) (h1 : w.cell? ⟨b1, 0, none⟩ = some (.int .i64 k)) (h2 : w.cell? ⟨b2, 0, none⟩ = some (.int .i64 i)) (l1 : b1 < w.heap.size) (l2 : b2 < w.heap.size) :
    Calls Tryz.prog 88 #[v, .func (.func 56) #[] #[.pointer (some ⟨b1, 0, none⟩), .pointer (some ⟨b2, 0, none⟩)]] w fun r w' => (∃ n : Int, r = .returned (.int .i64 n) ∧ (decide (0 ≤ n) = es.any (evB k i))) ∧ Ch Noone w w' := by
  have HV := Lib.hid hv
  have HC1 := Lib.hid h1
  have HC2 := Lib.hid h2
  have HL1 := Lib.hid l1
  have HL2 := Lib.hid l2
  obtain ⟨a, c, rfl, -, -, -, -⟩ := hv
  clear h1 h2 l1 l2
  go_enter Tryz.func88, Tryz.ntmps88
  go_wp2_with fail
  go_loopw [8] (fun q wr => ∃ j : Nat, j ≤ es.length ∧ q = .int .i64 j ∧ Ch Noone w wr ∧ (es.take j).any (evB k i) = false) (fun q _ => (es.length - intOf q).toNat)
  case atStart => exact ⟨0, by omega, rfl, Ch.refl _ _, rfl⟩
  case round =>
    obtain ⟨j, hj, rfl, hch, hno⟩ := hrel
    have HN := Lib.hid hno; clear hno
    by_cases hjl : j < es.length
    · obtain ⟨b, off, rfl, -, hbw, hat⟩ := HV.out.at (f := fEv) (C := 5) (fun _ => rfl) (by omega) hjl
      have y0 : wr.cell? ⟨b, off + j * 5, none⟩ = some (.int .i64 es[j].kind) := (hch.rd hbw _).trans (hat 0 (by omega))
      have y1 : wr.cell? ⟨b, off + j * 5 + 1, none⟩ = some (.int .i64 es[j].unit) := (hch.rd hbw _).trans (hat 1 (by omega))
      have y2 : wr.cell? ⟨b, off + j * 5 + 2, none⟩ = some (.int .i64 es[j].n) := (hch.rd hbw _).trans (hat 2 (by omega))
      have y3 : wr.cell? ⟨b, off + j * 5 + 3, none⟩ = some (.int .i64 es[j].ck) := (hch.rd hbw _).trans (hat 3 (by omega))
      have y4 : wr.cell? ⟨b, off + j * 5 + 4, none⟩ = some (.int .i64 es[j].cr) := (hch.rd hbw _).trans (hat 4 (by omega))
      have hj0 : (0 : Int) ≤ j := by omega
      have hj1 : (j : Int) < es.length := by omega
      have HO := Lib.hid (of1_any wr es[j] k i b1 b2 ((hch.rd HL1.out 0).trans HC1.out) ((hch.rd HL2.out 0).trans HC2.out) (Nat.lt_of_lt_of_le HL1.out hch.size) (Nat.lt_of_lt_of_le HL2.out hch.size))
      have HT : Hid (evB k i es[j] = false → (es.take (j + 1)).any (evB k i) = false) := fun h => by
        rw [List.take_succ_eq_append_getElem hjl, List.any_append, HN.out]; simp [h]
      have HY : Hid (evB k i es[j] = true → true = es.any (evB k i)) := fun h => (List.any_eq_true.2 ⟨_, List.getElem_mem hjl, h⟩).symm
      clear hat
      generalize evB k i es[j] = q at *
      generalize es[j] = x at *
      go_wp2_with fail
      refine HO.out.mono ?_
      rintro e w1 ⟨rfl, c1⟩
      clear HO
      cases q
      · have HT' := Lib.hid (HT.out rfl)
        clear HT HY
        go_wp2_with fail
        go_roundw
        case rel => exact ⟨j + 1, by omega, by go_num, hch.trans c1, HT'.out⟩
        case measure => simp [intOf]; omega
      · have HY' := Lib.hid (HY.out rfl)
        clear HT HY
        go_wp2_with fail
        go_ret
        exact ⟨⟨_, rfl, by rw [← HY'.out]; simp⟩, hch.trans c1⟩
    · have HA : Hid (es.any (evB k i) = false) := by
        have := HN.out
        rwa [List.take_of_length_le (by omega)] at this
      go_wp2_with fail
      go_ret
      exact ⟨⟨_, rfl, by rw [HA.out]; rfl⟩, hch⟩

theorem containsFunc_ev (B : Nat → Prop) (w : World) (v : Value) (es : List Ev) (k i : Int) (b1 b2 : Nat) (hv : Sl B w v es.length (es.flatMap fEv)) (hl : es.length ≤ 1000) (h1 : w.cell? ⟨b1, 0, none⟩ = some (.int .i64 k)) (h2 : w.cell? ⟨b2, 0, none⟩ = some (.int .i64 i)) (l1 : b1 < w.heap.size) (l2 : b2 < w.heap.size) :
    Calls Tryz.prog 55 #[v, .func (.func 56) #[] #[.pointer (some ⟨b1, 0, none⟩), .pointer (some ⟨b2, 0, none⟩)]] w fun r w' => r = .returned (.bool (es.any (evB k i))) ∧ Ch Noone w w' := by
  have HI := Lib.hid (indexFunc_ev B w v es k i b1 b2 hv hl h1 h2 l1 l2)
  clear hv h1 h2 l1 l2
  go_enter Tryz.func55, Tryz.ntmps55
  go_wp2_with fail
  refine HI.out.mono ?_
  rintro e w1 ⟨⟨n, rfl, hn⟩, c1⟩
  have HN := Lib.hid hn; clear hn
  go_wp2_with fail
  go_ret
  exact ⟨by rw [← HN.out]; rfl, c1⟩

theorem pair_of (B : Nat → Prop) (w : World) (v : Value) (es : List Ev) (k i : Int) (hv : Sl B w v es.length (es.flatMap fEv)) (hl : es.length ≤ 1000) :
    Calls Tryz.prog 29 #[v, .int .i64 k, .int .i64 i] w fun r w' => r = .returned (.bool (es.any (evB k i))) ∧ Ch Noone w w' := by
  have C0 : Ch Noone w ((w.alloc (.cells #[.int .i64 k] 3)).alloc (.cells #[.int .i64 i] 3)) := ((Ch.refl _ _).alloc _).alloc _
  have HI := Lib.hid (containsFunc_ev B ((w.alloc (.cells #[.int .i64 k] 3)).alloc (.cells #[.int .i64 i] 3)) v es k i w.heap.size (w.heap.size + 1) (hv.ch0 C0) hl (((Blk.new w 3 #[.int .i64 k]).alloc _).cell 0) ((Blk.new2 w _ 3 #[.int .i64 i]).cell 0) ((Blk.new w 3 #[.int .i64 k]).alloc _).lt (Blk.new2 w (.cells #[.int .i64 k] 3) 3 #[.int .i64 i]).lt)
  clear hv
  go_enter Tryz.func29, Tryz.ntmps29
  go_wp2_with fail
  refine HI.out.mono ?_
  rintro e w1 ⟨rfl, c1⟩
  go_wp2_with fail
  go_ret
  exact ⟨rfl, C0.trans c1⟩
end Go.Proofs.YtkplgggdidhnoaaGreatDoor

namespace Go.Proofs.YtkplgggdidhnoaaGreatDoor
open Go.ChangeShapes Go.WideShapes Go.ChangeAt Go.RowKit
set_option linter.unusedVariables false

def hapU (e : Ev) (i : Int) (u : US) : US := if e.unit = i then (if e.kind = 1 then u.crash else if e.kind = 2 then u.start else u) else u
/-- What an event does. -/
def PS.Hap (e : Ev) (ps ps' : PS) : Prop := ps'.u0 = hapU e 0 ps.u0 ∧ ps'.u1 = hapU e 1 ps.u1 ∧ ps'.re = ps.re ∧ ps'.ln = ps.ln ∧ ps'.now = ps.now
def evAgg (e : Ev) : Value := .agg #[.int .i64 e.kind, .int .i64 e.unit, .int .i64 e.n, .int .i64 e.ck, .int .i64 e.cr]
/-- A step of the pair. -/
def PStep (m : Nat → Nat) (w : World) (p a0 a1 r k f s : Nat) (L : Lay) (w' : World) (R : PS → Prop) : Prop :=
  ∃ m' ps', Agree w m m' ∧ PairP m' w' p a0 a1 r k f s L ps' ∧ R ps' ∧ Ch (Mine m) w w'
theorem Ch.mineNo {m : Nat → Nat} {w w' : World} (c : Ch Noone w w') : Ch (Mine m) w w' := c.mono fun _ _ h => h.elim

theorem hapU_no {e : Ev} {i : Int} {u : US} (h1 : e.kind ≠ 1) (h2 : e.kind ≠ 2) : hapU e i u = u := by
  simp [hapU, h1, h2]

set_option maxRecDepth 100000 in
set_option maxHeartbeats 4000000 in
theorem pair_happens {m : Nat → Nat} {w : World} {p a0 a1 r k f s : Nat} {L : Lay} {ps : PS} (e : Ev) (h : PairP m w p a0 a1 r k f s L ps) (ok : LayOk L) :
    Calls Tryz.prog 27 #[.pointer (some ⟨p, 0, none⟩), evAgg e] w fun x w' => x = .returned (.tuple #[]) ∧ PStep m w p a0 a1 r k f s L w' (PS.Hap e ps) := by
  obtain ⟨w0, hw0⟩ : ∃ w0, w0 = w.alloc (.cells #[.int .i64 e.kind, .int .i64 e.unit, .int .i64 e.n, .int .i64 e.ck, .int .i64 e.cr] 52) := ⟨_, rfl⟩
  have c0 : Ch Noone w w0 := by rw [hw0]; exact (Ch.refl _ _).alloc _
  have h0 := h.pure c0
  have A0 : Agree w m (lab m w.heap.size 9) := Agree.lab _ _ _
  generalize lab m w.heap.size 9 = m0 at *
  have HA := Lib.hid A0
  have H0 := Lib.hid h0
  have OK := Lib.hid ok
  have HW := Lib.hid hw0
  have HAt := Lib.hid (pair_at h0 e.unit)
  have cM : Hid (Ch (Mine m) w w0) := c0.mineNo
  have nop : Hid (hapU e 0 ps.u0 = ps.u0 → hapU e 1 ps.u1 = ps.u1 → PStep m w p a0 a1 r k f s L w0 (PS.Hap e ps)) := fun e1 e2 => ⟨m0, ps, A0, h0, ⟨e1.symm, e2.symm, rfl, rfl, rfl⟩, c0.mineNo⟩
  have stp : Hid (∀ (i : Nat), i ≤ 6 → ∀ w1 ps1, Ch (fun g => m0 g = i) w0 w1 → PairP (lab m0 w0.heap.size i) w1 p a0 a1 r k f s L ps1 → PS.Hap e ps ps1 → PStep m w p a0 a1 r k f s L w1 (PS.Hap e ps)) :=
    fun i hi w1 ps1 c h1 hr => ⟨_, ps1, A0.trans (Agree.lab _ _ _) c0.size, h1, hr, c0.mineNo.next A0 (c.mine hi)⟩
  obtain ⟨-, -, -, -, l4, -, -⟩ := h0.cells
  have x2 : w0.cell? ⟨w.heap.size, 2, none⟩ = some (.int .i64 e.n) := by rw [hw0]; exact (Blk.new w _ _).cell 2
  unfold evAgg
  clear h h0 A0 ok hw0
  obtain ⟨ek, eu, en, ec, er⟩ := e
  dsimp only at *
  by_cases k1 : ek = 1
  · subst k1
    clear l4
    by_cases e0 : eu = 0
    · subst e0
      obtain ⟨rs, hu⟩ := H0.out.u0
      have HU := Lib.hid (unit_crash _ _ _ _ _ _ hu OK.out)
      clear hu
      go_enter Tryz.func27, Tryz.ntmps27
      go_wp2_with fail
      rw [← HW.out]
      refine HAt.out.mono ?_
      rintro x w1 ⟨rfl, rfl⟩
      simp only [unitPtr, if_true]
      go_wp2_with fail
      refine HU.out.mono ?_
      rintro x w2 ⟨rfl, h2, c2⟩
      have H2 := Lib.hid h2; clear h2
      go_wp2_with fail
      go_end0
      exact ⟨rfl, stp.out 5 (by decide) _ _ c2 (H0.out.stepU0 c2 ⟨_, H2.out⟩) ⟨rfl, rfl, rfl, rfl, rfl⟩⟩
    · by_cases e1 : eu = 1
      · subst e1
        obtain ⟨rs, hu⟩ := H0.out.u1
        have HU := Lib.hid (unit_crash _ _ _ _ _ _ hu OK.out)
        clear hu
        go_enter Tryz.func27, Tryz.ntmps27
        go_wp2_with fail
        rw [← HW.out]
        refine HAt.out.mono ?_
        rintro x w1 ⟨rfl, rfl⟩
        simp only [unitPtr, if_true, show ¬ ((1 : Int) = 0) from by decide, if_false]
        go_wp2_with fail
        refine HU.out.mono ?_
        rintro x w2 ⟨rfl, h2, c2⟩
        have H2 := Lib.hid h2; clear h2
        go_wp2_with fail
        go_end0
        exact ⟨rfl, stp.out 6 (by decide) _ _ c2 (H0.out.stepU1 c2 ⟨_, H2.out⟩) ⟨rfl, rfl, rfl, rfl, rfl⟩⟩
      · have HN : Hid (unitPtr a0 a1 eu = .pointer none) := by unfold Hid unitPtr; rw [if_neg e0, if_neg e1]
        rw [HN.out] at HAt
        have HP := Lib.hid (nop.out (if_neg e0) (if_neg e1))
        clear e0 e1 nop
        go_enter Tryz.func27, Tryz.ntmps27
        go_wp2_with fail
        rw [← HW.out]
        refine HAt.out.mono ?_
        rintro x w1 ⟨rfl, rfl⟩
        go_wp2_with fail
        refine (crash_nil _).mono ?_
        rintro x w2 ⟨rfl, rfl⟩
        go_wp2_with fail
        go_end0
        exact ⟨rfl, HP.out⟩
  · by_cases k2 : ek = 2
    · subst k2
      clear l4
      by_cases e0 : eu = 0
      · subst e0
        obtain ⟨rs, hu⟩ := H0.out.u0
        have HU := Lib.hid (unit_start _ _ _ _ _ _ hu)
        clear hu
        go_enter Tryz.func27, Tryz.ntmps27
        go_wp2_with fail
        rw [← HW.out]
        refine HAt.out.mono ?_
        rintro x w1 ⟨rfl, rfl⟩
        simp only [unitPtr, if_true]
        go_wp2_with fail
        refine HU.out.mono ?_
        rintro x w2 ⟨⟨xr, rfl⟩, h2, c2⟩
        have H2 := Lib.hid h2; clear h2
        go_wp2_with fail
        go_end0
        exact ⟨rfl, stp.out 5 (by decide) _ _ c2 (H0.out.stepU0 c2 ⟨_, H2.out.mono fun g hg _ => .inl hg⟩) ⟨rfl, rfl, rfl, rfl, rfl⟩⟩
      · by_cases e1 : eu = 1
        · subst e1
          obtain ⟨rs, hu⟩ := H0.out.u1
          have HU := Lib.hid (unit_start _ _ _ _ _ _ hu)
          clear hu
          go_enter Tryz.func27, Tryz.ntmps27
          go_wp2_with fail
          rw [← HW.out]
          refine HAt.out.mono ?_
          rintro x w1 ⟨rfl, rfl⟩
          simp only [unitPtr, if_true, show ¬ ((1 : Int) = 0) from by decide, if_false]
          go_wp2_with fail
          refine HU.out.mono ?_
          rintro x w2 ⟨⟨xr, rfl⟩, h2, c2⟩
          have H2 := Lib.hid h2; clear h2
          go_wp2_with fail
          go_end0
          exact ⟨rfl, stp.out 6 (by decide) _ _ c2 (H0.out.stepU1 c2 ⟨_, H2.out.mono fun g hg _ => .inl hg⟩) ⟨rfl, rfl, rfl, rfl, rfl⟩⟩
        · have HN : Hid (unitPtr a0 a1 eu = .pointer none) := by unfold Hid unitPtr; rw [if_neg e0, if_neg e1]
          rw [HN.out] at HAt
          have HP := Lib.hid (nop.out (if_neg e0) (if_neg e1))
          clear e0 e1 nop
          go_enter Tryz.func27, Tryz.ntmps27
          go_wp2_with fail
          rw [← HW.out]
          refine HAt.out.mono ?_
          rintro x w1 ⟨rfl, rfl⟩
          go_wp2_with fail
          refine (start_nil _).mono ?_
          rintro x w2 ⟨⟨xr, rfl⟩, rfl⟩
          go_wp2_with fail
          go_end0
          exact ⟨rfl, HP.out⟩
    · have HN0 := Lib.hid (hapU_no (e := ⟨ek, eu, en, ec, er⟩) (i := 0) (u := ps.u0) k1 k2)
      have HN1 := Lib.hid (hapU_no (e := ⟨ek, eu, en, ec, er⟩) (i := 1) (u := ps.u1) k1 k2)
      have ho : ps.occ.length ≤ 100 := by have := H0.out.ol; have := OK.out.s1; omega
      have hpl : ps.pts.length ≤ 100 := by have := H0.out.pl; have := OK.out.p1; omega
      by_cases k7 : ek = 7
      · subst k7
        clear k1 k2
        have HP := Lib.hid (fun w1 occ pts h1 h2 h3 hf c => stp.out 3 (by decide) w1 _ c (H0.out.stepField c (hf : FieldAt (Gr (fun g => m0 g = 3) w0) w1 f occ pts) h1 h2 h3) ⟨HN0.out.symm, HN1.out.symm, rfl, rfl, rfl⟩)
        have HF := Lib.hid (field_train _ w0.drew f ps.occ ps.pts en (H0.out.field.ch ((Ch.refl Noone _).drew) (fun _ _ _ h => h)) ho)
        clear nop stp HN0 HN1
        go_enter Tryz.func27, Tryz.ntmps27
        go_wp2_with fail
        rw [← HW.out]
        go_still_tail 6, (by kernel_rfl)
        change wpList _ _ _ _ _ w0.drew
        go_wp2_with fail
        refine HF.out.mono ?_
        rintro x w2 ⟨⟨xr, rfl⟩, ⟨occ', hl, hf⟩, c2⟩
        have HF2 := Lib.hid hf
        have HL2 := Lib.hid hl
        clear hf hl
        go_wp2_with fail
        go_end0
        exact ⟨rfl, HP.out w2 occ' ps.pts HL2.out rfl H0.out.pk (HF2.out.mono fun g hg _ => .inl hg) ((Ch.refl _ _).drew.trans c2)⟩
      · by_cases k10 : ek = 10
        · subst k10
          clear k1 k2 k7
          have HP := Lib.hid (fun w1 occ pts h1 h2 h3 hf c => stp.out 3 (by decide) w1 _ c (H0.out.stepField c (hf : FieldAt (Gr (fun g => m0 g = 3) w0) w1 f occ pts) h1 h2 h3) ⟨HN0.out.symm, HN1.out.symm, rfl, rfl, rfl⟩)
          have HF := Lib.hid (field_stick _ w0.drew f ps.occ ps.pts en (H0.out.field.ch ((Ch.refl Noone _).drew) (fun _ _ _ h => h)) hpl)
          clear nop stp HN0 HN1
          go_enter Tryz.func27, Tryz.ntmps27
          go_wp2_with fail
          rw [← HW.out]
          go_still_tail 6, (by kernel_rfl)
          change wpList _ _ _ _ _ w0.drew
          go_wp2_with fail
          refine HF.out.mono ?_
          rintro x w2 ⟨⟨xr, rfl⟩, ⟨pts', hl, hp, hf⟩, c2⟩
          have HF2 := Lib.hid hf
          have HL2 := Lib.hid hl
          have HP2 := Lib.hid hp
          clear hf hl hp
          go_wp2_with fail
          go_end0
          refine ⟨rfl, HP.out w2 ps.occ pts' rfl HL2.out (fun q hq => ?_) (HF2.out.mono fun g hg _ => .inl hg) ((Ch.refl _ _).drew.trans c2)⟩
          rcases HP2.out q hq with h | h
          · exact H0.out.pk q h
          · subst h; exact ⟨by decide, by decide⟩
        · have e1 : (ek == 1) = false := by simpa using k1
          have e2 : (ek == 2) = false := by simpa using k2
          have e7 : (ek == 7) = false := by simpa using k7
          have e10 : (ek == 10) = false := by simpa using k10
          have HP := Lib.hid (nop.out HN0.out HN1.out)
          clear k1 k2 k7 k10 nop stp
          go_enter Tryz.func27, Tryz.ntmps27
          go_wp2_with fail
          rw [← HW.out]
          go_end0
          exact ⟨rfl, HP.out⟩
end Go.Proofs.YtkplgggdidhnoaaGreatDoor

namespace Go.Proofs.YtkplgggdidhnoaaGreatDoor
open Go.ChangeShapes Go.WideShapes Go.ChangeAt Go.RowKit
set_option linter.unusedVariables false

/-- What is given up in one event, and in a row of them. -/
def PS.Yl1 (e : Ev) (ps ps' : PS) : Prop :=
  if e.kind = 9 ∧ e.unit = 0 then ps' = { ps with u0 := ps.u0.yld, re := if ps.u0.mode = 3 then (ps.re.yield 0).1 else ps.re }
  else if e.kind = 9 ∧ e.unit = 1 then ps' = { ps with u1 := ps.u1.yld, re := if ps.u1.mode = 3 then (ps.re.yield 1).1 else ps.re }
  else ps' = ps
/-- One pair state behind a row of events. -/
def PS.Fold (R : Ev → PS → PS → Prop) : List Ev → PS → PS → Prop
  | [], a, b => b = a
  | e :: es, a, c => ∃ b, R e a b ∧ PS.Fold R es b c
theorem PS.Fold.snoc {R : Ev → PS → PS → Prop} {x : Ev} : ∀ {es : List Ev} {a b c : PS}, PS.Fold R es a b → R x b c → PS.Fold R (es ++ [x]) a c
  | [], a, b, c, h, h2 => by
    have e : b = a := h
    subst e
    exact ⟨c, h2, rfl⟩
  | e :: es, a, b, c, ⟨d, h1, h2⟩, h3 => ⟨d, h1, h2.snoc h3⟩
theorem PStep.trans {m m1 : Nat → Nat} {w w1 w2 : World} {p a0 a1 r k f s : Nat} {L : Lay} {R : PS → Prop} {ps1 : PS} (a : Agree w m m1) (c : Ch (Mine m) w w1) (h : PStep m1 w1 p a0 a1 r k f s L w2 R) : PStep m w p a0 a1 r k f s L w2 R := by
  obtain ⟨m2, ps2, a2, h2, hr, c2⟩ := h
  exact ⟨m2, ps2, a.trans a2 c.size, h2, hr, c.next a c2⟩

/-- Yield of the unit of a number. -/
theorem yield_at {m : Nat → Nat} {w : World} {p a0 a1 r k f s : Nat} {L : Lay} {ps : PS} (i : Int) (h : PairP m w p a0 a1 r k f s L ps) (ok : LayOk L) :
    Calls Tryz.prog 63 #[unitPtr a0 a1 i] w fun x w' =>
      ∃ y ps', x = .returned (.bool y) ∧ (∃ m', Agree w m m' ∧ PairP m' w' p a0 a1 r k f s L ps' ∧ Ch (Mine m) w w') ∧ ps'.re = ps.re ∧
        ((i = 0 ∧ y = (ps.u0.mode == 3) ∧ ps' = { ps with u0 := ps.u0.yld }) ∨ (i = 1 ∧ y = (ps.u1.mode == 3) ∧ ps' = { ps with u1 := ps.u1.yld }) ∨ (i ≠ 0 ∧ i ≠ 1 ∧ y = false ∧ ps' = ps)) := by
  by_cases h0 : i = 0
  · subst h0
    obtain ⟨rs, hu⟩ := h.u0
    simp only [unitPtr, if_true]
    refine (unit_yield _ _ _ _ _ _ hu ok).mono ?_
    rintro x w' ⟨rfl, ⟨rs', -, h2⟩, c⟩
    exact ⟨_, _, rfl, ⟨_, Agree.lab _ _ _, h.stepU0 c ⟨rs', h2⟩, c.mine (by decide)⟩, rfl, .inl ⟨by trivial, rfl, rfl⟩⟩
  · by_cases h1 : i = 1
    · subst h1
      obtain ⟨rs, hu⟩ := h.u1
      simp only [unitPtr, if_true, show ¬ ((1 : Int) = 0) from by decide, if_false]
      refine (unit_yield _ _ _ _ _ _ hu ok).mono ?_
      rintro x w' ⟨rfl, ⟨rs', -, h2⟩, c⟩
      exact ⟨_, _, rfl, ⟨_, Agree.lab _ _ _, h.stepU1 c ⟨rs', h2⟩, c.mine (by decide)⟩, rfl, .inr (.inl ⟨by trivial, rfl, rfl⟩)⟩
    · have HN : unitPtr a0 a1 i = .pointer none := by unfold unitPtr; rw [if_neg h0, if_neg h1]
      rw [HN]
      refine (yield_nil _).mono ?_
      rintro x w' ⟨rfl, rfl⟩
      exact ⟨_, _, rfl, ⟨m, Agree.refl _ _, h, Ch.refl _ _⟩, rfl, .inr (.inr ⟨h0, h1, rfl, rfl⟩)⟩

set_option maxRecDepth 100000 in
set_option maxHeartbeats 4000000 in
theorem pair_yields {m : Nat → Nat} {w : World} {p a0 a1 r k f s : Nat} {L : Lay} {ps : PS} (v : Value) (es : List Ev) (hv : Sl (fun g => m g = 9) w v es.length (es.flatMap fEv)) (hl : es.length ≤ 1000) (h : PairP m w p a0 a1 r k f s L ps) (ok : LayOk L) (hn0 : 0 ≤ ps.re.now) (hn1 : ps.re.now ≤ 1099511627776) :
    Calls Tryz.prog 32 #[.pointer (some ⟨p, 0, none⟩), v] w fun x w' => x = .returned (.tuple #[]) ∧ PStep m w p a0 a1 r k f s L w' (PS.Fold PS.Yl1 es ps) := by
  have HV := Lib.hid hv
  have HP := Lib.hid h
  have OK := Lib.hid ok
  have HN := Lib.hid (And.intro hn0 hn1)
  obtain ⟨av, cv, rfl, -, -, -, -⟩ := hv
  clear h ok hn0 hn1
  go_enter Tryz.func32, Tryz.ntmps32
  go_wp2_with fail
  go_loopw [8] (fun q wr => ∃ (j : Nat) (m1 : Nat → Nat) (ps1 : PS), j ≤ es.length ∧ q = .int .i64 j ∧ Agree w m m1 ∧ PairP m1 wr p a0 a1 r k f s L ps1 ∧ Ch (Mine m) w wr ∧ PS.Fold PS.Yl1 (es.take j) ps ps1 ∧ ps1.re.now = ps.re.now) (fun q _ => (es.length - intOf q).toNat)
  case atStart => exact ⟨0, m, ps, by omega, rfl, Agree.refl _ _, HP.out, Ch.refl _ _, rfl, rfl⟩
  case round =>
    obtain ⟨j, m1, ps1, hj, rfl, ha, hp, hch, hfo, hno⟩ := hrel
    have HA := Lib.hid ha
    have HP1 := Lib.hid hp
    have HF := Lib.hid hfo
    have HNo := Lib.hid hno
    clear ha hp hfo hno
    by_cases hjl : j < es.length
    · obtain ⟨b, off, rfl, hb9, hbw, hat⟩ := (HV.out.keep hch HA.out).at (f := fEv) (C := 5) (fun _ => rfl) (by omega) hjl
      have y0 : wr.cell? ⟨b, off + j * 5, none⟩ = some (.int .i64 es[j].kind) := hat 0 (by omega)
      have y1 : wr.cell? ⟨b, off + j * 5 + 1, none⟩ = some (.int .i64 es[j].unit) := hat 1 (by omega)
      have y2 : wr.cell? ⟨b, off + j * 5 + 2, none⟩ = some (.int .i64 es[j].n) := hat 2 (by omega)
      have y3 : wr.cell? ⟨b, off + j * 5 + 3, none⟩ = some (.int .i64 es[j].ck) := hat 3 (by omega)
      have y4 : wr.cell? ⟨b, off + j * 5 + 4, none⟩ = some (.int .i64 es[j].cr) := hat 4 (by omega)
      have HTk : Hid (∀ ps2, PS.Yl1 es[j] ps1 ps2 → PS.Fold PS.Yl1 (es.take (j + 1)) ps ps2) := fun ps2 h2 => by
        rw [List.take_succ_eq_append_getElem hjl]
        exact HF.out.snoc h2
      have hj0 : (0 : Int) ≤ j := by omega
      have hj1 : (j : Int) < es.length := by omega
      clear hat HF
      generalize es[j] = e at *
      obtain ⟨ek, eu, en, ec, er⟩ := e
      dsimp only at *
      obtain ⟨w0, hw0⟩ : ∃ w0, w0 = wr.alloc (.cells #[.int .i64 ek, .int .i64 eu, .int .i64 en, .int .i64 ec, .int .i64 er] 52) := ⟨_, rfl⟩
      have c0 : Ch Noone wr w0 := by rw [hw0]; exact (Ch.refl _ _).alloc _
      have h0 := HP1.out.pure c0
      have A0 : Agree wr m1 (lab m1 wr.heap.size 9) := Agree.lab _ _ _
      have m0p : lab m1 wr.heap.size 9 wr.heap.size = 9 := lab_ge (Nat.le_refl _)
      generalize lab m1 wr.heap.size 9 = m0 at *
      have x0 : Hid (Sl (fun g => m0 g = 9) w0 (.slice (some ⟨wr.heap.size, 0, none⟩) 1 1) 1 [.int .i64 ek, .int .i64 eu]) := by
        rw [hw0]
        exact ⟨_, _, rfl, Nat.le_refl _, by omega, (fun h => by cases h), fun _ => ⟨_, 0, rfl, m0p, (Blk.new wr _ _).lt, fun i hi => by
          have hi2 : i = 0 ∨ i = 1 := by simp at hi; omega
          rcases hi2 with rfl | rfl
          · exact (Blk.new wr _ _).cell 0
          · exact (Blk.new wr _ _).cell 1⟩⟩
      have AA : Hid (Agree w m m0) := HA.out.trans A0 hch.size
      have CC : Hid (Ch (Mine m) w w0) := hch.then c0 fun _ _ h => h.elim
      have H0 := Lib.hid h0
      have HW := Lib.hid hw0
      clear h0 hw0 A0 c0 m0p
      by_cases k9 : ek = 9
      · subst k9
        have HAt := Lib.hid (pair_at H0.out eu)
        have HY := Lib.hid (yield_at eu H0.out OK.out)
        go_wp2_with fail
        rw [← HW.out]
        refine HAt.out.mono ?_
        rintro x w1 ⟨rfl, rfl⟩
        go_wp2_with fail
        refine HY.out.mono ?_
        rintro x w2 ⟨y, ps2, rfl, ⟨m2, a2, h2, c2⟩, hre, hcase⟩
        have H2 := Lib.hid h2
        have A2 := Lib.hid a2
        have RE := Lib.hid hre
        have HC := Lib.hid hcase
        clear h2 a2 hre hcase
        cases y
        · go_wp2_with fail
          go_roundw
          case rel =>
            refine ⟨j + 1, m2, ps2, by omega, by go_num, AA.out.trans A2.out CC.out.size, H2.out, CC.out.next AA.out c2, HTk.out _ ?_, ?_⟩
            · rcases HC.out with ⟨rfl, hy, rfl⟩ | ⟨rfl, hy, rfl⟩ | ⟨n0, n1, _, rfl⟩
              · have : ¬ (ps1.u0.mode = 3) := by intro e; rw [e] at hy; exact absurd hy (by decide)
                simp [PS.Yl1, this]
              · have : ¬ (ps1.u1.mode = 3) := by intro e; rw [e] at hy; exact absurd hy (by decide)
                simp [PS.Yl1, this]
              · simp [PS.Yl1, n0, n1]
            · rw [RE.out, HNo.out]
          case measure => simp [intOf]; omega
        · have z1 : w2.cell? ⟨wr.heap.size, 1, none⟩ = some (.int .i64 eu) := by
            obtain ⟨b2, o2, e2, -, -, hat⟩ := (x0.out.keep c2 A2.out).at (f := fun v : Value => [v]) (C := 1) (xs := [.int .i64 9, .int .i64 eu]) (fun _ => rfl) (by omega) (i := 1) (by simp)
            simp only [Option.some.injEq, Addr.mk.injEq, and_true] at e2
            obtain ⟨rfl, rfl⟩ := e2
            exact hat 0 (by omega)
          obtain ⟨-, -, l2, -, -, -, -⟩ := H2.out.cells
          have HR := Lib.hid (relay_yield w2.drew r ps2.re eu H2.out.relay (by rw [RE.out, HNo.out]; exact HN.out.1) (by rw [RE.out, HNo.out]; exact HN.out.2))
          go_wp2_with fail
          go_still_tail 6, (by kernel_rfl)
          change wpList _ _ _ _ _ w2.drew
          go_wp2_with fail
          refine HR.out.mono ?_
          rintro x w3 ⟨rfl, hr3, c3⟩
          have R3 := Lib.hid hr3
          clear hr3
          go_wp2_with fail
          go_roundw
          case rel =>
            have c3' : Ch (fun g => g = r) w2 w3 := (Ch.refl _ _).drew.trans c3
            have hmr := H2.out.mr
            refine ⟨j + 1, lab m2 w2.heap.size 1, { ps2 with re := (ps2.re.yield eu).1 }, by omega, by go_num, (AA.out.trans A2.out CC.out.size).trans (Agree.lab _ _ _) (Nat.le_trans CC.out.size c2.size), H2.out.stepRelay c3' R3.out, (CC.out.next AA.out c2).next (AA.out.trans A2.out CC.out.size) (c3'.mono fun g _ e => by show m2 g ≤ 6; rw [e, hmr]; decide), HTk.out _ ?_, ?_⟩
            · rcases HC.out with ⟨rfl, hy, rfl⟩ | ⟨rfl, hy, rfl⟩ | ⟨n0, n1, hy, rfl⟩
              · have : ps1.u0.mode = 3 := by simpa using hy.symm
                simp [PS.Yl1, this]
              · have : ps1.u1.mode = 3 := by simpa using hy.symm
                simp [PS.Yl1, this]
              · cases hy
            · show (ps2.re.yield eu).1.now = _
              rw [← HNo.out, ← RE.out]
              unfold St.yield
              split <;> rfl
          case measure => simp [intOf]; omega
      · have k9' : (ek == 9) = false := by simpa using k9
        have HY : Hid (PS.Yl1 ⟨ek, eu, en, ec, er⟩ ps1 ps1) := by
          unfold Hid PS.Yl1
          rw [if_neg (fun h => k9 h.1), if_neg (fun h => k9 h.1)]
        clear k9
        go_wp2_with fail
        rw [← HW.out]
        go_roundw
        case rel => exact ⟨j + 1, m0, ps1, by omega, by go_num, AA.out, H0.out, CC.out, HTk.out _ HY.out, HNo.out⟩
        case measure => simp [intOf]; omega
    · go_wp2_with fail
      go_end0
      have hf := HF.out
      rw [List.take_of_length_le (by omega)] at hf
      exact ⟨rfl, m1, ps1, HA.out, HP1.out, hf, hch⟩
end Go.Proofs.YtkplgggdidhnoaaGreatDoor
