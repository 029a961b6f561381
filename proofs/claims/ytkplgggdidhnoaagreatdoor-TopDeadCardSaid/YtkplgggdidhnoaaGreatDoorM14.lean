/-
  The contracts of unit: what each method does to the blocks of a Unit. Conditions: sizes. The contracts of unit: leaves, Crash, Start, Yield, Tick. Conditions: sizes. The contract of unit: Tick. Conditions: sizes. The contracts of unit: begins, Granted. Conditions: sizes. The contract of unit: Granted. Conditions: sizes. The contracts of unit: New; Hear of no bytes, or out of Standby; Send of one that is not Active. Conditions: sizes. The contract of unit: Cycle of one that is not Active. Conditions: sizes.
-/
import Derived.Test.YtkplgggdidhnoaaGreatDoorM13
import Derived.Test.YtkplgggdidhnoaaGreatDoorM02
namespace Go.Proofs.YtkplgggdidhnoaaGreatDoor
open Go.ChangeShapes Go.WideShapes Go.ChangeAt Go.RowKit
set_option linter.unusedVariables false

/-- What a Unit holds, but for its Lock. -/
structure US where
  mode : Int
  tick : Int
  count : Int
  left : Int
  ep : Int
  en : Int
  gr : Bool
  cp : Option (Int × Int × List RS)

/-- The copy. -/
def CopyAt (O : Nat → Prop) (w : World) (v : Value) : Option (Int × Int × List RS) → Prop
  | none => v = .pointer none
  | some (e, c, xs) => ∃ b u, v = .pointer (some ⟨b, 0, none⟩) ∧ O b ∧ Blk w b 122 #[.int .i64 e, .int .i64 c, u] ∧ Sl O w u xs.length (xs.flatMap fRS)
theorem CopyAt.ch {O S : Nat → Prop} {w w' : World} {v : Value} : ∀ {x : Option (Int × Int × List RS)}, CopyAt O w v x → Ch S w w' → (∀ g, O g → g < w.heap.size → ¬ S g) → CopyAt O w' v x
  | none, h, _, _ => h
  | some (e, n, xs), ⟨b, u, h1, h2, h3, h4⟩, c, hs => ⟨b, u, h1, h2, c.blk h3 (hs b h2 h3.lt), h4.ch c hs⟩
theorem CopyAt.mono {O O' : Nat → Prop} {w : World} {v : Value} : ∀ {x : Option (Int × Int × List RS)}, CopyAt O w v x → (∀ g, O g → g < w.heap.size → O' g) → CopyAt O' w v x
  | none, h, _ => h
  | some (e, c, xs), ⟨b, u, h1, h2, h3, h4⟩, ho => ⟨b, u, h1, ho b h2 h3.lt, h3, h4.mono ho⟩

/-- The parts of a Unit: the unit, its lock, its lease, its copy, apart by the labels m. -/
structure UnitP (O : Nat → Prop) (m : Nat → Nat) (w : World) (b bl be : Nat) (vc : Value) (L : Lay) (us : US) (rs : List RS) : Prop where
  ob : O b
  oe : O be
  mb : m b = 0
  me : m be = 2
  blk : Blk w b 110 #[.pointer (some ⟨bl, 0, none⟩), .pointer (some ⟨be, 0, none⟩), vc, .int .i64 us.mode, .int .i64 us.tick, .int .i64 us.count, .int .i64 us.left]
  lock : LockAt (fun g => O g ∧ m g = 1) w bl L rs
  lease : LeaseAt 149 w be us.ep us.en us.gr
  copy : CopyAt (fun g => O g ∧ m g = 3) w vc us.cp
def UnitAt (O : Nat → Prop) (w : World) (b : Nat) (L : Lay) (us : US) (rs : List RS) : Prop := ∃ m bl be vc, UnitP O m w b bl be vc L us rs

theorem UnitP.ch {O S : Nat → Prop} {m : Nat → Nat} {w w' : World} {b bl be : Nat} {vc : Value} {L : Lay} {us : US} {rs : List RS} (h : UnitP O m w b bl be vc L us rs) (c : Ch S w w') (hs : ∀ g, O g → g < w.heap.size → ¬ S g) : UnitP O m w' b bl be vc L us rs :=
  ⟨h.ob, h.oe, h.mb, h.me, c.blk h.blk (hs b h.ob h.blk.lt), h.lock.ch c fun g hg => hs g hg.1, c.blk h.lease (hs be h.oe (Blk.lt h.lease)), h.copy.ch c fun g hg => hs g hg.1⟩
theorem UnitP.mono {O O' : Nat → Prop} {m : Nat → Nat} {w : World} {b bl be : Nat} {vc : Value} {L : Lay} {us : US} {rs : List RS} (h : UnitP O m w b bl be vc L us rs) (ho : ∀ g, O g → g < w.heap.size → O' g) : UnitP O' m w b bl be vc L us rs :=
  ⟨ho b h.ob h.blk.lt, ho be h.oe (Blk.lt h.lease), h.mb, h.me, h.blk, h.lock.mono fun g hg hl => ⟨ho g hg.1 hl, hg.2⟩, h.lease, h.copy.mono fun g hg hl => ⟨ho g hg.1 hl, hg.2⟩⟩
theorem UnitAt.ch {O S : Nat → Prop} {w w' : World} {b : Nat} {L : Lay} {us : US} {rs : List RS} (h : UnitAt O w b L us rs) (c : Ch S w w') (hs : ∀ g, O g → g < w.heap.size → ¬ S g) : UnitAt O w' b L us rs := by
  obtain ⟨m, bl, be, vc, h⟩ := h
  exact ⟨m, bl, be, vc, h.ch c hs⟩
theorem UnitAt.mono {O O' : Nat → Prop} {w : World} {b : Nat} {L : Lay} {us : US} {rs : List RS} (h : UnitAt O w b L us rs) (ho : ∀ g, O g → g < w.heap.size → O' g) : UnitAt O' w b L us rs := by
  obtain ⟨m, bl, be, vc, h⟩ := h
  exact ⟨m, bl, be, vc, h.mono ho⟩
theorem UnitAt.lt {O : Nat → Prop} {w : World} {b : Nat} {L : Lay} {us : US} {rs : List RS} (h : UnitAt O w b L us rs) : b < w.heap.size := by
  obtain ⟨m, bl, be, vc, h⟩ := h
  exact h.blk.lt

theorem Gr.gr {O : Nat → Prop} {w w1 : World} (h : w.heap.size ≤ w1.heap.size) (g : Nat) (hg : Gr (Gr O w) w1 g) : Gr O w g := by
  rcases hg with hg | hg
  · exact hg
  · exact .inr (Nat.le_trans h hg)
theorem Gr.le {O : Nat → Prop} {w w1 : World} (h : w.heap.size ≤ w1.heap.size) (g : Nat) (hg : Gr O w1 g) : Gr O w g := by
  rcases hg with hg | hg
  · exact .inl hg
  · exact .inr (Nat.le_trans h hg)
/-- New blocks get the label k. -/
def lab (m : Nat → Nat) (N k : Nat) : Nat → Nat := fun g => if g < N then m g else k
theorem lab_lt {m : Nat → Nat} {N k g : Nat} (h : g < N) : lab m N k g = m g := if_pos h
theorem lab_ge {m : Nat → Nat} {N k g : Nat} (h : N ≤ g) : lab m N k g = k := if_neg (by omega)

/-- A step at the lock alone. -/
theorem UnitP.stepLock {O : Nat → Prop} {m : Nat → Nat} {w w' : World} {b bl be : Nat} {vc : Value} {L : Lay} {us : US} {rs rs' : List RS} {S : Nat → Prop} (h : UnitP O m w b bl be vc L us rs)
    (h' : LockAt (Gr (fun g => O g ∧ m g = 1) w) w' bl L rs') (c : Ch S w w') (hs : ∀ g, S g → g < w.heap.size → O g ∧ m g = 1) : UnitP (Gr O w) (lab m w.heap.size 1) w' b bl be vc L us rs' := by
  have hb := h.blk.lt
  have he := Blk.lt h.lease
  refine ⟨.inl h.ob, .inl h.oe, (lab_lt hb).trans h.mb, (lab_lt he).trans h.me, c.blk h.blk fun hS => ?_, h'.mono fun g hg hl => ?_, c.blk h.lease fun hS => ?_, ?_⟩
  · have := (hs b hS hb).2; rw [h.mb] at this; omega
  · rcases hg with hg | hg
    · by_cases hgl : g < w.heap.size
      · exact ⟨.inl hg.1, (lab_lt hgl).trans hg.2⟩
      · exact ⟨.inl hg.1, lab_ge (by omega)⟩
    · exact ⟨.inr hg, lab_ge hg⟩
  · have := (hs be hS he).2; rw [h.me] at this; omega
  · exact (h.copy.mono fun g hg hl => (⟨.inl hg.1, (lab_lt hl).trans hg.2, hg, hl⟩ : Gr O w g ∧ lab m w.heap.size 1 g = 3 ∧ (O g ∧ m g = 3) ∧ g < w.heap.size)).ch c (fun g hg _ hS => by have := (hs g hS hg.2.2.2).2; rw [hg.2.2.1.2] at this; omega) |>.mono fun g hg _ => ⟨hg.1, hg.2.1⟩

theorem Blk.cells7 {w : World} {b : Nat} {T : TypeId} {v0 v1 v2 v3 v4 v5 v6 : Value} (h : Blk w b T #[v0, v1, v2, v3, v4, v5, v6]) :
    w.cell? ⟨b, 0, none⟩ = some v0 ∧ w.cell? ⟨b, 1, none⟩ = some v1 ∧ w.cell? ⟨b, 2, none⟩ = some v2 ∧ w.cell? ⟨b, 3, none⟩ = some v3 ∧ w.cell? ⟨b, 4, none⟩ = some v4 ∧ w.cell? ⟨b, 5, none⟩ = some v5 ∧ w.cell? ⟨b, 6, none⟩ = some v6 :=
  ⟨h.cell 0, h.cell 1, h.cell 2, h.cell 3, h.cell 4, h.cell 5, h.cell 6⟩

theorem unit_mode (O : Nat → Prop) (w : World) (b : Nat) (L : Lay) (us : US) (rs : List RS) (h : UnitAt O w b L us rs) :
    Calls Tryz.prog 43 #[.pointer (some ⟨b, 0, none⟩)] w fun r w' => r = .returned (.int .i64 us.mode) ∧ w' = w := by
  obtain ⟨m, bl, be, vc, h⟩ := h
  obtain ⟨-, -, -, l3, -, -, -⟩ := h.blk.cells7
  clear h
  go_enter Tryz.func43, Tryz.ntmps43
  go_wp2
  go_ret
  exact ⟨rfl, rfl⟩
theorem unit_count (O : Nat → Prop) (w : World) (b : Nat) (L : Lay) (us : US) (rs : List RS) (h : UnitAt O w b L us rs) :
    Calls Tryz.prog 66 #[.pointer (some ⟨b, 0, none⟩)] w fun r w' => r = .returned (.int .i64 us.count) ∧ w' = w := by
  obtain ⟨m, bl, be, vc, h⟩ := h
  obtain ⟨-, -, -, -, -, l5, -⟩ := h.blk.cells7
  clear h
  go_enter Tryz.func66, Tryz.ntmps66
  go_wp2
  go_ret
  exact ⟨rfl, rfl⟩
/-- Active, or Forced. -/
def US.works (us : US) : Bool := us.mode == 3 || us.mode == 4
theorem unit_works (w : World) (b : Nat) (x : Int) (h : w.cell? ⟨b, 3, none⟩ = some (.int .i64 x)) :
    Calls Tryz.prog 52 #[.pointer (some ⟨b, 0, none⟩)] w fun r w' => r = .returned (.bool (x == 3 || x == 4)) ∧ w' = w := by
  by_cases h3 : x = 3
  · subst h3
    go_enter Tryz.func52, Tryz.ntmps52
    go_wp2
    go_ret
    exact ⟨rfl, rfl⟩
  · have h3' : (x == 3) = false := by simpa using h3
    clear h3
    go_enter Tryz.func52, Tryz.ntmps52
    go_wp2
    go_ret
    exact ⟨by simp [h3'], rfl⟩

set_option maxHeartbeats 2000000 in
theorem unit_resets (O : Nat → Prop) (m : Nat → Nat) (w : World) (b bl be : Nat) (vc : Value) (L : Lay) (us : US) (rs : List RS) (h : UnitP O m w b bl be vc L us rs) (ok : LayOk L) :
    Calls Tryz.prog 86 #[.pointer (some ⟨b, 0, none⟩)] w fun r w' => r = .returned (.tuple #[]) ∧ ∃ m', UnitP (Gr O w) m' w' b bl be vc L us (List.replicate rs.length RS.idle) ∧ Ch O w w' := by
  have HU := Lib.hid h
  have OK := Lib.hid ok
  have l0 := h.blk.cells7.1
  have HLk := Lib.hid h.lock
  have b0 := Lib.hid h.blk
  have hn6 : rs.length ≤ 6 := by have := ok.r1; have := h.lock.2.1; omega
  clear h ok
  have hmk := fun (w : World) => made_rs w rs.length (by omega)
  go_enter Tryz.func86, Tryz.ntmps86
  go_wp2_with fail
  go_region_held3 (fun w' => w'.cell? ⟨b, 0, none⟩ = some (.pointer (some ⟨bl, 0, none⟩))) (first | exact l0 | exact ((c1.blk b0.out.drew (fun h => h))).cell 0 | exact (((c1.blk b0.out.drew (fun h => h))).alloc _).cell 0 | exact (c2.blk ((c1.blk b0.out.drew (fun h => h)).alloc _) (fun e => (show m b ≠ m bl by rw [HU.out.mb, HLk.out.1.2]; omega) (by rw [e]))).cell 0) (first
    | (go_at_call 60; refine (lock_routes _ _ _ _ _ (HLk.out.ch ((Ch.refl Noone _).drew) (fun _ _ _ h => h)) OK.out).mono ?_; rintro e w1 ⟨v', rfl, h1, c1⟩; obtain ⟨a1, cc1, rfl, -, -, -, -⟩ := h1.sl)
    | (go_at_call 61; refine (lock_set_idle _ (New 0) _ _ _ _ ((HLk.out.ch ((Ch.refl Noone _).drew.trans c1) (fun _ _ _ h => h)).ch ((Ch.refl Noone _).alloc _) (fun _ _ _ h => h)) OK.out _ ((Own.made fRS 4 (fun _ => rfl) (by omega) RS.idle _ rfl w1 _ rs.length (by omega) (New 0) (Nat.zero_le _)).sl)).mono ?_; rintro e w2 ⟨rfl, h2, c2⟩))
  go_end0
  have ca : Ch Noone w (w1.alloc (.cells (madeCells #[.int .i64 0, .int .i64 0, .int .i64 0, .bool false] (rs.length * 4)) 168)) := (((Ch.refl Noone _).drew.trans c1).alloc _)
  have cb : Ch (fun g => g = bl) w w2 := (ca.mono fun _ _ h => h.elim).trans c2
  have hO := HLk.out.1
  exact ⟨rfl, _, HU.out.stepLock (h2.mono fun g hg _ => Gr.le ca.size g hg) cb (fun g e _ => by rw [e]; exact hO), cb.mono fun g _ e => by rw [e]; exact hO.1⟩
end Go.Proofs.YtkplgggdidhnoaaGreatDoor

namespace Go.Proofs.YtkplgggdidhnoaaGreatDoor
open Go.ChangeShapes Go.WideShapes Go.ChangeAt Go.RowKit
set_option linter.unusedVariables false

theorem UnitP.relabel {O : Nat → Prop} {m : Nat → Nat} {w : World} {b bl be : Nat} {vc : Value} {L : Lay} {us : US} {rs : List RS} (h : UnitP O m w b bl be vc L us rs) (k : Nat) : UnitP (Gr O w) (lab m w.heap.size k) w b bl be vc L us rs :=
  ⟨.inl h.ob, .inl h.oe, (lab_lt h.blk.lt).trans h.mb, (lab_lt (Blk.lt h.lease)).trans h.me, h.blk, h.lock.mono fun g hg hl => ⟨.inl hg.1, (lab_lt hl).trans hg.2⟩, h.lease, h.copy.mono fun g hg hl => ⟨.inl hg.1, (lab_lt hl).trans hg.2⟩⟩
/-- A step at the unit's own block and its lease. -/
theorem UnitP.own {O S : Nat → Prop} {m : Nat → Nat} {w w' : World} {b bl be be' : Nat} {vc vc' : Value} {L : Lay} {us us' : US} {rs : List RS} (h : UnitP O m w b bl be vc L us rs)
    (hb : Blk w' b 110 #[.pointer (some ⟨bl, 0, none⟩), .pointer (some ⟨be', 0, none⟩), vc', .int .i64 us'.mode, .int .i64 us'.tick, .int .i64 us'.count, .int .i64 us'.left])
    (c : Ch S w w') (hs : ∀ g, S g → g < w.heap.size → g = b ∨ g = be) (ho : O be') (hm : m be' = 2) (hl : LeaseAt 149 w' be' us'.ep us'.en us'.gr) (hc : CopyAt (fun g => O g ∧ m g = 3) w vc' us'.cp) : UnitP O m w' b bl be' vc' L us' rs :=
  ⟨h.ob, ho, h.mb, hm, hb, h.lock.ch c fun g hg hlt hS => by
    have h1 := hg.2
    rcases hs g hS hlt with e | e
    · rw [e, h.mb] at h1; omega
    · rw [e, h.me] at h1; omega, hl, hc.ch c fun g hg hlt hS => by
    have h1 := hg.2
    rcases hs g hS hlt with e | e
    · rw [e, h.mb] at h1; omega
    · rw [e, h.me] at h1; omega⟩
theorem UnitP.ne {O : Nat → Prop} {m : Nat → Nat} {w : World} {b bl be : Nat} {vc : Value} {L : Lay} {us : US} {rs : List RS} (h : UnitP O m w b bl be vc L us rs) : be ≠ b := fun e => by
  have := h.me; rw [e, h.mb] at this; omega

/-- It is a Standby that knows nothing. -/
def US.leave (us : US) : US := { us with mode := 2, gr := false, cp := none }
def US.crash (us : US) : US := { us with mode := 0, count := 0, ep := 0, en := 0, gr := false, cp := none }
def US.start (us : US) : US := if us.mode = 0 then { us with mode := 1, tick := 0 } else us
def US.yld (us : US) : US := if us.mode = 3 then us.leave else us
def US.tk0 (us : US) (slow : Bool) : US := { us with tick := if slow then us.tick else us.tick + 1 }
def US.tk (us : US) (slow : Bool) : US :=
  if us.mode = 0 then us
  else if us.mode = 1 then (if 3 ≤ (us.tk0 slow).tick then { us.tk0 slow with mode := 2 } else us.tk0 slow)
  else if (us.works && !(live us.en us.gr (us.tk0 slow).tick)) = true then (us.tk0 slow).leave else us.tk0 slow

set_option maxHeartbeats 2000000 in
theorem unit_leaves (O : Nat → Prop) (w : World) (b : Nat) (L : Lay) (us : US) (rs : List RS) (h : UnitAt O w b L us rs) (ok : LayOk L) :
    Calls Tryz.prog 54 #[.pointer (some ⟨b, 0, none⟩)] w fun r w' => r = .returned (.tuple #[]) ∧ UnitAt (Gr O w) w' b L us.leave (List.replicate rs.length RS.idle) ∧ Ch O w w' := by
  obtain ⟨m, bl, be, vc, h⟩ := h
  have HU := Lib.hid h
  have OK := Lib.hid ok
  clear h ok
  go_enter Tryz.func54, Tryz.ntmps54
  go_wp2_with fail
  refine (unit_resets O m w b bl be vc L us rs HU.out OK.out).mono ?_
  rintro e w1 ⟨rfl, m', h1, c1⟩
  have b1 := h1.blk
  have f3 := b1.free 3
  have f2 := b1.free 2
  obtain ⟨-, l1, l2, l3, -, -, -⟩ := b1.cells7
  have H1 := Lib.hid h1
  have HB1 := Lib.hid b1
  clear h1 b1
  go_wp2_with fail
  have b2 : Hid (Blk ((w1.setCell ⟨b, 3, none⟩ (.int .i64 2)).setCell ⟨b, 2, none⟩ (.pointer none)) b 110 #[.pointer (some ⟨bl, 0, none⟩), .pointer (some ⟨be, 0, none⟩), .pointer none, .int .i64 2, .int .i64 us.tick, .int .i64 us.count, .int .i64 us.left]) := by
    have := (HB1.out.set 3 (.int .i64 2)).set 2 (.pointer none)
    simpa [Hid] using this
  have HE : Hid (LeaseAt 149 ((w1.setCell ⟨b, 3, none⟩ (.int .i64 2)).setCell ⟨b, 2, none⟩ (.pointer none)) be us.ep us.en us.gr) := Blk.other (Blk.other H1.out.lease H1.out.ne _ _) H1.out.ne _ _
  refine (lease_drop _ be us.ep us.en us.gr HE.out).mono ?_
  rintro e w2 ⟨rfl, h2, c2⟩
  have H2 := Lib.hid h2; clear h2
  go_wp2_with fail
  go_end0
  have cc : Ch (fun g => g = b ∨ g = be) w1 w2 := ((((Ch.refl _ _).set (fun _ => .inl rfl) _ _).set (fun _ => .inl rfl) _ _)).then c2 fun g _ e => .inr e
  refine ⟨rfl, ⟨m', bl, be, _, H1.out.own (us' := us.leave) (c2.blk b2.out H1.out.ne.symm) cc (fun g hg _ => hg) H1.out.oe H1.out.me H2.out rfl⟩, c1.then cc fun g hl hg => ?_⟩
  have h3 := H1.out.ob
  have h4 := H1.out.oe
  rcases hg with e | e
  · rw [e] at hl ⊢; exact h3.resolve_right (by omega)
  · rw [e] at hl ⊢; exact h4.resolve_right (by omega)

set_option maxHeartbeats 2000000 in
theorem unit_crash (O : Nat → Prop) (w : World) (b : Nat) (L : Lay) (us : US) (rs : List RS) (h : UnitAt O w b L us rs) (ok : LayOk L) :
    Calls Tryz.prog 48 #[.pointer (some ⟨b, 0, none⟩)] w fun r w' => r = .returned (.tuple #[]) ∧ UnitAt (Gr O w) w' b L us.crash (List.replicate rs.length RS.idle) ∧ Ch O w w' := by
  obtain ⟨m, bl, be, vc, h⟩ := h
  have HU := Lib.hid h
  have OK := Lib.hid ok
  clear h ok
  go_enter Tryz.func48, Tryz.ntmps48
  go_wp2_with fail
  refine (unit_resets O m w b bl be vc L us rs HU.out OK.out).mono ?_
  rintro e w1 ⟨rfl, m', h1, c1⟩
  have H1 := Lib.hid h1
  clear h1
  go_wp2_with fail
  refine (lease_new _).mono ?_
  rintro e w2 ⟨rfl, hw⟩
  have hbl := H1.out.blk.lt
  have c2 : Ch Noone w1 w2 := by rw [hw]; exact (Ch.refl _ _).alloc _
  have le : LeaseAt 149 w2 w1.heap.size 0 0 false := by rw [hw]; exact Blk.new _ _ _
  clear hw
  have b1 := c2.blk H1.out.blk (fun h => h)
  have f1 := b1.free 1
  have f2 := b1.free 2
  have f3 := b1.free 3
  have f5 := b1.free 5
  obtain ⟨-, l1, l2, l3, -, l5, -⟩ := b1.cells7
  have HB1 := Lib.hid b1
  have LE := Lib.hid le
  clear b1 le
  go_wp2_with fail
  go_end0
  have hne : w1.heap.size ≠ b := by omega
  have b2 := (((HB1.out.set 3 (.int .i64 0)).set 1 (.pointer (some ⟨w1.heap.size, 0, none⟩))).set 2 (.pointer none)).set 5 (.int .i64 0)
  have cc : Ch (fun g => g = b) w1 ((((w2.setCell ⟨b, 3, none⟩ (.int .i64 0)).setCell ⟨b, 1, none⟩ (.pointer (some ⟨w1.heap.size, 0, none⟩))).setCell ⟨b, 2, none⟩ (.pointer none)).setCell ⟨b, 5, none⟩ (.int .i64 0)) := ((((c2.mono fun _ _ h => h.elim).set1 _ _).set1 _ _).set1 _ _).set1 _ _
  refine ⟨rfl, ⟨_, bl, w1.heap.size, _, ((H1.out.relabel 2).mono (fun g hg _ => Gr.gr c1.size g hg)).own (us' := us.crash) (by simpa [US.crash] using b2) cc (fun g hg _ => .inl hg) (.inr c1.size) (lab_ge (Nat.le_refl _)) ?_ rfl⟩, c1.then cc fun g hl hg => ?_⟩
  · exact Blk.other (Blk.other (Blk.other (Blk.other LE.out hne _ _) hne _ _) hne _ _) hne _ _
  · rw [hg] at hl ⊢; exact H1.out.ob.resolve_right (by omega)

theorem unit_start (O : Nat → Prop) (w : World) (b : Nat) (L : Lay) (us : US) (rs : List RS) (h : UnitAt O w b L us rs) :
    Calls Tryz.prog 49 #[.pointer (some ⟨b, 0, none⟩)] w fun r w' => (∃ e : Int, r = .returned (.int .i64 e)) ∧ UnitAt O w' b L us.start rs ∧ Ch O w w' := by
  obtain ⟨m, bl, be, vc, h⟩ := h
  have f3 := h.blk.free 3
  have f4 := h.blk.free 4
  obtain ⟨-, -, -, l3, l4, -, -⟩ := h.blk.cells7
  have HU := Lib.hid h
  clear h
  by_cases h0 : us.mode = 0
  · have HS : Hid (us.start = { us with mode := 1, tick := 0 }) := if_pos h0
    rw [HS.out]
    rw [h0] at l3
    clear h0
    go_enter Tryz.func49, Tryz.ntmps49
    go_wp2_with fail
    go_ret
    have cc : Ch (fun g => g = b) w ((w.setCell ⟨b, 3, none⟩ (.int .i64 1)).setCell ⟨b, 4, none⟩ (.int .i64 0)) := ((Ch.refl _ _).set1 _ _).set1 _ _
    refine ⟨⟨_, rfl⟩, ⟨m, bl, be, vc, HU.out.own (us' := { us with mode := 1, tick := 0 }) (by have := (HU.out.blk.set 3 (.int .i64 1)).set 4 (.int .i64 0); simpa using this) cc (fun g hg _ => .inl hg) HU.out.oe HU.out.me (Blk.other (Blk.other HU.out.lease HU.out.ne _ _) HU.out.ne _ _) HU.out.copy⟩, cc.mono fun g _ e => e ▸ HU.out.ob⟩
  · have HS : Hid (us.start = us) := if_neg h0
    rw [HS.out]
    have h0' : (us.mode != 0) = true := by simpa using h0
    clear h0
    go_enter Tryz.func49, Tryz.ntmps49
    go_wp2_with fail
    go_ret
    exact ⟨⟨_, rfl⟩, ⟨m, bl, be, vc, HU.out⟩, Ch.refl _ _⟩

theorem unit_yield (O : Nat → Prop) (w : World) (b : Nat) (L : Lay) (us : US) (rs : List RS) (h : UnitAt O w b L us rs) (ok : LayOk L) :
    Calls Tryz.prog 63 #[.pointer (some ⟨b, 0, none⟩)] w fun r w' => r = .returned (.bool (us.mode == 3)) ∧ (∃ rs', rs'.length = rs.length ∧ UnitAt (Gr O w) w' b L us.yld rs') ∧ Ch O w w' := by
  have HA := Lib.hid h
  have OK := Lib.hid ok
  clear ok
  obtain ⟨m, bl, be, vc, h⟩ := h
  obtain ⟨-, -, -, l3, -, -, -⟩ := h.blk.cells7
  clear h
  by_cases h3 : us.mode = 3
  · have HS : Hid (us.yld = us.leave) := if_pos h3
    rw [HS.out]
    rw [h3] at l3 ⊢
    clear h3
    go_enter Tryz.func63, Tryz.ntmps63
    go_wp2_with fail
    refine (unit_leaves _ _ _ _ _ _ HA.out OK.out).mono ?_
    rintro e w1 ⟨rfl, h1, c1⟩
    have H1 := Lib.hid h1; clear h1
    go_wp2_with fail
    go_ret
    exact ⟨rfl, ⟨_, List.length_replicate, H1.out⟩, c1⟩
  · have HS : Hid (us.yld = us) := if_neg h3
    rw [HS.out]
    have h3' : (us.mode != 3) = true := by simpa using h3
    have HF : Hid ((us.mode == 3) = false) := by simpa [Hid] using h3
    clear h3
    go_enter Tryz.func63, Tryz.ntmps63
    go_wp2_with fail
    go_ret
    rw [HF.out]
    exact ⟨rfl, ⟨_, rfl, HA.out.mono fun g hg _ => .inl hg⟩, Ch.refl _ _⟩
end Go.Proofs.YtkplgggdidhnoaaGreatDoor

namespace Go.Proofs.YtkplgggdidhnoaaGreatDoor
open Go.ChangeShapes Go.WideShapes Go.ChangeAt Go.RowKit
set_option linter.unusedVariables false

theorem UnitP.drewN {O : Nat → Prop} {m : Nat → Nat} {w : World} {b bl be : Nat} {vc : Value} {L : Lay} {us : US} {rs : List RS} (h : UnitP O m w b bl be vc L us rs) (n : Nat) : UnitP O m (w.drewN n) b bl be vc L us rs := h.ch ((Ch.refl Noone _).drewN _) fun _ _ _ h => h
set_option maxHeartbeats 4000000 in
theorem unit_tick (O : Nat → Prop) (w : World) (b : Nat) (L : Lay) (us : US) (rs : List RS) (slow : Bool) (h : UnitAt O w b L us rs) (ok : LayOk L) (t0 : 0 ≤ us.tick) (t1 : us.tick ≤ 30000) :
    Calls Tryz.prog 28 #[.pointer (some ⟨b, 0, none⟩), .bool slow] w fun r w' => r = .returned (.tuple #[]) ∧ (∃ rs', rs'.length = rs.length ∧ UnitAt (Gr O w) w' b L (us.tk slow) rs') ∧ Ch O w w' := by
  have OK := Lib.hid ok
  clear ok
  have HA := Lib.hid h
  obtain ⟨m, bl, be, vc, h⟩ := h
  have HU := Lib.hid h
  obtain ⟨-, l1, -, l3, l4, -, -⟩ := h.blk.cells7
  have f3 := h.blk.free 3
  have f4 := h.blk.free 4
  by_cases h0 : us.mode = 0
  · have HS : Hid (us.tk slow = us) := if_pos h0
    rw [HS.out]
    rw [h0] at l3
    clear h0 h
    go_enter Tryz.func28, Tryz.ntmps28
    go_wp2_with fail
    (try simp only [Exit.inBlock, Exit.then])
    refine bodyPost_ret (results_none rfl _ _ _) rfl ?_
    exact ⟨rfl, ⟨_, rfl, HA.out.mono fun g hg _ => .inl hg⟩, Ch.refl _ _⟩
  · have h0' : (us.mode == 0) = false := by simpa using h0
    cases slow with
    | false =>
      have H1 : Hid (UnitP O m (w.setCell ⟨b, 4, none⟩ (.int .i64 (us.tick + 1))) b bl be vc L (us.tk0 false) rs) := HU.out.own (us' := us.tk0 false) (by have := HU.out.blk.set 4 (.int .i64 (us.tick + 1)); simpa [US.tk0] using this) ((Ch.refl (fun g => g = b) w).set1 _ _) (fun g hg _ => .inl hg) HU.out.oe HU.out.me (Blk.other HU.out.lease HU.out.ne _ _) HU.out.copy
      have cw : Ch (fun g => g = b) w (w.setCell ⟨b, 4, none⟩ (.int .i64 (us.tick + 1))) := ((Ch.refl _ _).set1 _ _)
      have hO := Lib.hid HU.out.ob
      have C1 : Hid (Ch O w (w.setCell ⟨b, 4, none⟩ (.int .i64 (us.tick + 1)))) := cw.mono fun g _ e => e ▸ hO.out
      have CB := Lib.hid cw
      have HWk : Hid (∀ k, _) := fun k => unit_works ((w.setCell ⟨b, 4, none⟩ (.int .i64 (us.tick + 1))).drewN k) b us.mode (H1.out.blk.cells7.2.2.2.1)
      have HLv : Hid (∀ k, _) := fun k => lease_live ((w.setCell ⟨b, 4, none⟩ (.int .i64 (us.tick + 1))).drewN k) be us.ep us.en (us.tick + 1) us.gr (H1.out.lease)
      clear h cw
      by_cases hm1 : us.mode = 1
      · rw [hm1] at l3
        rw [hm1, show ((1 : Int) == 3 || (1 : Int) == 4) = false from rfl] at HWk
        by_cases h3 : 3 ≤ us.tick + 1
        · have HS : Hid (us.tk false = { us.tk0 false with mode := 2 }) := by unfold Hid US.tk; rw [if_neg h0, if_pos hm1, if_pos (by simpa [US.tk0] using h3)]
          rw [HS.out]
          clear hm1 h0
          go_enter Tryz.func28, Tryz.ntmps28
          go_wp2_with fail
          go_end0
          have cc : Ch (fun g => g = b) (w.setCell ⟨b, 4, none⟩ (.int .i64 (us.tick + 1))) ((w.setCell ⟨b, 4, none⟩ (.int .i64 (us.tick + 1))).setCell ⟨b, 3, none⟩ (.int .i64 2)) := (Ch.refl _ _).set1 _ _
          refine ⟨rfl, ⟨_, rfl, m, bl, be, vc, (H1.out.own (us' := { us.tk0 false with mode := 2 }) (by have := H1.out.blk.set 3 (.int .i64 2); simpa using this) cc (fun g hg _ => .inl hg) H1.out.oe H1.out.me (Blk.other H1.out.lease H1.out.ne _ _) H1.out.copy).mono fun g hg _ => .inl hg⟩, C1.out.trans (cc.mono fun g _ e => e ▸ hO.out)⟩
        · have HS : Hid (us.tk false = us.tk0 false) := by unfold Hid US.tk; rw [if_neg h0, if_pos hm1, if_neg (by simpa [US.tk0] using h3)]
          rw [HS.out]
          have h3' : us.tick + 1 < 3 := by omega
          clear hm1 h0 h3
          go_enter Tryz.func28, Tryz.ntmps28
          go_wp2_with fail
          go_big_quiet ((go_at_call 52; with_reducible refine Calls.quiet_of_same (HWk.out _)))
          go_wp2_with fail
          go_end0
          exact ⟨rfl, ⟨_, rfl, m, bl, be, vc, ((H1.out.drewN _).mono fun g hg _ => .inl hg)⟩, C1.out.drewN _⟩
      · have hm1' : (us.mode == 1) = false := by simpa using hm1
        by_cases hw : (us.mode == 3 || us.mode == 4) = true
        · rw [hw] at HWk
          by_cases hl : live us.en us.gr (us.tick + 1) = true
          · have HS : Hid (us.tk false = us.tk0 false) := by unfold Hid US.tk; rw [if_neg h0, if_neg hm1, if_neg (by simp only [US.works, hw, US.tk0]; simp [hl])]
            rw [HS.out]
            rw [hl] at HLv
            clear hm1 h0 hw hl
            go_enter Tryz.func28, Tryz.ntmps28
            go_wp2_with fail
            go_big_quiet ((first | (go_at_call 52; with_reducible refine Calls.quiet_of_same (HWk.out _)) | (go_at_call 53; with_reducible refine Calls.quiet_of_same (HLv.out _))))
            go_wp2_with fail
            go_end0
            exact ⟨rfl, ⟨_, rfl, m, bl, be, vc, ((H1.out.drewN _).mono fun g hg _ => .inl hg)⟩, C1.out.drewN _⟩
          · have hl' : live us.en us.gr (us.tick + 1) = false := by simpa using hl
            have HS : Hid (us.tk false = (us.tk0 false).leave) := by unfold Hid US.tk; rw [if_neg h0, if_neg hm1, if_pos (by simp only [US.works, hw, US.tk0]; simp [hl'])]
            rw [HS.out]
            rw [hl'] at HLv
            clear hm1 h0 hw hl hl'
            go_enter Tryz.func28, Tryz.ntmps28
            go_wp2_with fail
            go_big_quiet ((first | (go_at_call 52; with_reducible refine Calls.quiet_of_same (HWk.out _)) | (go_at_call 53; with_reducible refine Calls.quiet_of_same (HLv.out _))))
            go_wp2_with fail
            refine (unit_leaves O _ b L (us.tk0 false) rs (⟨m, bl, be, vc, H1.out.drewN _⟩ : UnitAt O ((w.setCell ⟨b, 4, none⟩ (.int .i64 (us.tick + 1))).drewN _) b L (us.tk0 false) rs) OK.out).mono ?_
            rintro e w2 ⟨rfl, h2, c2⟩
            have H2 := Lib.hid h2; clear h2
            go_wp2_with fail
            go_end0
            exact ⟨rfl, ⟨_, List.length_replicate, H2.out.mono fun g hg _ => Gr.le (C1.out.drewN _).size g hg⟩, (C1.out.drewN _).trans c2⟩
        · have hw' : (us.mode == 3 || us.mode == 4) = false := by simpa using hw
          have HS : Hid (us.tk false = us.tk0 false) := by unfold Hid US.tk; rw [if_neg h0, if_neg hm1, if_neg (by simp only [US.works, hw']; simp)]
          rw [HS.out]
          rw [hw'] at HWk
          clear hm1 h0 hw hw'
          go_enter Tryz.func28, Tryz.ntmps28
          go_wp2_with fail
          go_big_quiet ((go_at_call 52; with_reducible refine Calls.quiet_of_same (HWk.out _)))
          go_wp2_with fail
          go_end0
          exact ⟨rfl, ⟨_, rfl, m, bl, be, vc, ((H1.out.drewN _).mono fun g hg _ => .inl hg)⟩, C1.out.drewN _⟩
    | true =>
      have H1 : Hid (UnitP O m w b bl be vc L (us.tk0 true) rs) := HU.out
      have cw : Ch (fun g => g = b) w w := (Ch.refl _ _)
      have hO := Lib.hid HU.out.ob
      have C1 : Hid (Ch O w w) := cw.mono fun g _ e => e ▸ hO.out
      have CB := Lib.hid cw
      have HWk : Hid (∀ k, _) := fun k => unit_works (w.drewN k) b us.mode (H1.out.blk.cells7.2.2.2.1)
      have HLv : Hid (∀ k, _) := fun k => lease_live (w.drewN k) be us.ep us.en (us.tick) us.gr (H1.out.lease)
      clear h cw
      by_cases hm1 : us.mode = 1
      · rw [hm1] at l3
        rw [hm1, show ((1 : Int) == 3 || (1 : Int) == 4) = false from rfl] at HWk
        by_cases h3 : 3 ≤ us.tick
        · have HS : Hid (us.tk true = { us.tk0 true with mode := 2 }) := by unfold Hid US.tk; rw [if_neg h0, if_pos hm1, if_pos (by simpa [US.tk0] using h3)]
          rw [HS.out]
          clear hm1 h0
          go_enter Tryz.func28, Tryz.ntmps28
          go_wp2_with fail
          go_end0
          have cc : Ch (fun g => g = b) w (w.setCell ⟨b, 3, none⟩ (.int .i64 2)) := (Ch.refl _ _).set1 _ _
          refine ⟨rfl, ⟨_, rfl, m, bl, be, vc, (H1.out.own (us' := { us.tk0 true with mode := 2 }) (by have := H1.out.blk.set 3 (.int .i64 2); simpa using this) cc (fun g hg _ => .inl hg) H1.out.oe H1.out.me (Blk.other H1.out.lease H1.out.ne _ _) H1.out.copy).mono fun g hg _ => .inl hg⟩, C1.out.trans (cc.mono fun g _ e => e ▸ hO.out)⟩
        · have HS : Hid (us.tk true = us.tk0 true) := by unfold Hid US.tk; rw [if_neg h0, if_pos hm1, if_neg (by simpa [US.tk0] using h3)]
          rw [HS.out]
          have h3' : us.tick < 3 := by omega
          clear hm1 h0 h3
          go_enter Tryz.func28, Tryz.ntmps28
          go_wp2_with fail
          go_big_quiet ((go_at_call 52; with_reducible refine Calls.quiet_of_same (HWk.out _)))
          go_wp2_with fail
          go_end0
          exact ⟨rfl, ⟨_, rfl, m, bl, be, vc, ((H1.out.drewN _).mono fun g hg _ => .inl hg)⟩, C1.out.drewN _⟩
      · have hm1' : (us.mode == 1) = false := by simpa using hm1
        by_cases hw : (us.mode == 3 || us.mode == 4) = true
        · rw [hw] at HWk
          by_cases hl : live us.en us.gr (us.tick) = true
          · have HS : Hid (us.tk true = us.tk0 true) := by unfold Hid US.tk; rw [if_neg h0, if_neg hm1, if_neg (by simp only [US.works, hw, US.tk0]; simp [hl])]
            rw [HS.out]
            rw [hl] at HLv
            clear hm1 h0 hw hl
            go_enter Tryz.func28, Tryz.ntmps28
            go_wp2_with fail
            go_big_quiet ((first | (go_at_call 52; with_reducible refine Calls.quiet_of_same (HWk.out _)) | (go_at_call 53; with_reducible refine Calls.quiet_of_same (HLv.out _))))
            go_wp2_with fail
            go_end0
            exact ⟨rfl, ⟨_, rfl, m, bl, be, vc, ((H1.out.drewN _).mono fun g hg _ => .inl hg)⟩, C1.out.drewN _⟩
          · have hl' : live us.en us.gr (us.tick) = false := by simpa using hl
            have HS : Hid (us.tk true = (us.tk0 true).leave) := by unfold Hid US.tk; rw [if_neg h0, if_neg hm1, if_pos (by simp only [US.works, hw, US.tk0]; simp [hl'])]
            rw [HS.out]
            rw [hl'] at HLv
            clear hm1 h0 hw hl hl'
            go_enter Tryz.func28, Tryz.ntmps28
            go_wp2_with fail
            go_big_quiet ((first | (go_at_call 52; with_reducible refine Calls.quiet_of_same (HWk.out _)) | (go_at_call 53; with_reducible refine Calls.quiet_of_same (HLv.out _))))
            go_wp2_with fail
            refine (unit_leaves O _ b L (us.tk0 true) rs (⟨m, bl, be, vc, H1.out.drewN _⟩ : UnitAt O (w.drewN _) b L (us.tk0 true) rs) OK.out).mono ?_
            rintro e w2 ⟨rfl, h2, c2⟩
            have H2 := Lib.hid h2; clear h2
            go_wp2_with fail
            go_end0
            exact ⟨rfl, ⟨_, List.length_replicate, H2.out.mono fun g hg _ => Gr.le (C1.out.drewN _).size g hg⟩, (C1.out.drewN _).trans c2⟩
        · have hw' : (us.mode == 3 || us.mode == 4) = false := by simpa using hw
          have HS : Hid (us.tk true = us.tk0 true) := by unfold Hid US.tk; rw [if_neg h0, if_neg hm1, if_neg (by simp only [US.works, hw']; simp)]
          rw [HS.out]
          rw [hw'] at HWk
          clear hm1 h0 hw hw'
          go_enter Tryz.func28, Tryz.ntmps28
          go_wp2_with fail
          go_big_quiet ((go_at_call 52; with_reducible refine Calls.quiet_of_same (HWk.out _)))
          go_wp2_with fail
          go_end0
          exact ⟨rfl, ⟨_, rfl, m, bl, be, vc, ((H1.out.drewN _).mono fun g hg _ => .inl hg)⟩, C1.out.drewN _⟩
end Go.Proofs.YtkplgggdidhnoaaGreatDoor

namespace Go.Proofs.YtkplgggdidhnoaaGreatDoor
open Go.ChangeShapes Go.WideShapes Go.ChangeAt Go.RowKit
set_option linter.unusedVariables false

/-- It is Forced. -/
def US.force (us : US) (last : Int) : US := { us with mode := 4, count := last, left := 10 }
/-- How a unit begins: Forced; or, out of Standby with a copy, Active. -/
def US.Begun (us : US) (last : Int) (us' : US) : Prop := us' = us.force last ∨ (us.mode = 2 ∧ us.cp ≠ none ∧ ∃ c : Int, us' = { us with mode := 3, count := c })

set_option maxHeartbeats 4000000 in
theorem unit_begins (O : Nat → Prop) (w : World) (b : Nat) (L : Lay) (us : US) (rs : List RS) (x y : Int) (h : UnitAt O w b L us rs) (ok : LayOk L) (hc : us.cp = none) :
    Calls Tryz.prog 103 #[.pointer (some ⟨b, 0, none⟩), .int .i64 x, .int .i64 y] w fun r w' => r = .returned (.tuple #[]) ∧ (∃ us' rs', US.Begun us y us' ∧ rs'.length = rs.length ∧ UnitAt (Gr O w) w' b L us' rs') ∧ Ch O w w' := by
  have OK := Lib.hid ok
  clear ok
  obtain ⟨m, bl, be, vc, h⟩ := h
  have HU := Lib.hid h
  obtain ⟨-, -, l2, l3, -, -, -⟩ := h.blk.cells7
  have hcp := h.copy
  rw [hc] at hcp
  have hv : vc = .pointer none := hcp
  rw [hv] at l2
  clear hcp hv h hc
  by_cases h2 : us.mode = 2
  · rw [h2] at l3
    clear h2
    go_enter Tryz.func103, Tryz.ntmps103
    go_wp2_with fail
    go_big_quiet (fail)
    go_wp2_with fail
    refine (unit_resets O m _ b bl be vc L us rs (HU.out.drewN _) OK.out).mono ?_
    rintro e w1 ⟨rfl, m', h1, c1⟩
    have hbl := h1.blk.lt
    have f3 := h1.blk.free 3
    have f5 := h1.blk.free 5
    have f6 := h1.blk.free 6
    obtain ⟨-, -, -, l3, -, l5, l6⟩ := h1.blk.cells7
    have H1 := Lib.hid h1
    clear h1
    go_wp2_with fail
    go_end0
    have cc : Ch (fun g => g = b) w1 (((w1.setCell ⟨b, 3, none⟩ (.int .i64 4)).setCell ⟨b, 5, none⟩ (.int .i64 y)).setCell ⟨b, 6, none⟩ (.int .i64 10)) := (((Ch.refl _ _).set1 _ _).set1 _ _).set1 _ _
    have HP := H1.out.own (us' := us.force y) (by have := ((H1.out.blk.set 3 (.int .i64 4)).set 5 (.int .i64 y)).set 6 (.int .i64 10); simpa [US.force] using this) cc (fun g hg _ => .inl hg) H1.out.oe H1.out.me (Blk.other (Blk.other (Blk.other H1.out.lease H1.out.ne _ _) H1.out.ne _ _) H1.out.ne _ _) H1.out.copy
    refine ⟨rfl, ⟨us.force y, _, .inl rfl, List.length_replicate, m', bl, be, vc, HP⟩, (((Ch.refl _ _).drewN _).trans c1).then cc fun g hl hg => ?_⟩
    subst hg
    exact HU.out.ob
  · have h2' : (us.mode == 2) = false := by simpa using h2
    clear h2
    go_enter Tryz.func103, Tryz.ntmps103
    go_wp2_with fail
    go_big_quiet (fail)
    go_wp2_with fail
    refine (unit_resets O m _ b bl be vc L us rs (HU.out.drewN _) OK.out).mono ?_
    rintro e w1 ⟨rfl, m', h1, c1⟩
    have hbl := h1.blk.lt
    have f3 := h1.blk.free 3
    have f5 := h1.blk.free 5
    have f6 := h1.blk.free 6
    obtain ⟨-, -, -, l3, -, l5, l6⟩ := h1.blk.cells7
    have H1 := Lib.hid h1
    clear h1
    go_wp2_with fail
    go_end0
    have cc : Ch (fun g => g = b) w1 (((w1.setCell ⟨b, 3, none⟩ (.int .i64 4)).setCell ⟨b, 5, none⟩ (.int .i64 y)).setCell ⟨b, 6, none⟩ (.int .i64 10)) := (((Ch.refl _ _).set1 _ _).set1 _ _).set1 _ _
    have HP := H1.out.own (us' := us.force y) (by have := ((H1.out.blk.set 3 (.int .i64 4)).set 5 (.int .i64 y)).set 6 (.int .i64 10); simpa [US.force] using this) cc (fun g hg _ => .inl hg) H1.out.oe H1.out.me (Blk.other (Blk.other (Blk.other H1.out.lease H1.out.ne _ _) H1.out.ne _ _) H1.out.ne _ _) H1.out.copy
    refine ⟨rfl, ⟨us.force y, _, .inl rfl, List.length_replicate, m', bl, be, vc, HP⟩, (((Ch.refl _ _).drewN _).trans c1).then cc fun g hl hg => ?_⟩
    subst hg
    exact HU.out.ob
end Go.Proofs.YtkplgggdidhnoaaGreatDoor

namespace Go.Proofs.YtkplgggdidhnoaaGreatDoor
open Go.ChangeShapes Go.WideShapes Go.ChangeAt Go.RowKit
set_option linter.unusedVariables false

def US.grant (us : US) (ep : Int) : US := { us with ep := ep, en := us.tick + 8 - 3, gr := true }
/-- How a unit stands behind a grant. -/
def US.Given (us : US) (ep last : Int) (us' : US) : Prop :=
  (us.works = true ∧ us.ep = ep ∧ us' = us.grant ep) ∨
  ((us.works = true ∧ us.ep ≠ ep ∨ us.mode = 2) ∧ ∃ u, US.Begun (us.grant ep) last u ∧ us' = { u with cp := none }) ∨
  (us.works = false ∧ us.mode ≠ 2 ∧ us' = us)
theorem US.begun_ep {us us' : US} {l : Int} (h : us.Begun l us') : us'.ep = us.ep ∧ us'.en = us.en ∧ us'.gr = us.gr ∧ us'.tick = us.tick := by
  rcases h with rfl | ⟨_, _, c, rfl⟩ <;> exact ⟨rfl, rfl, rfl, rfl⟩

set_option maxRecDepth 100000 in
set_option maxHeartbeats 4000000 in
theorem unit_granted (O : Nat → Prop) (w : World) (b : Nat) (L : Lay) (us : US) (rs : List RS) (x y : Int) (h : UnitAt O w b L us rs) (ok : LayOk L) (hc : us.cp = none) (t0 : 0 ≤ us.tick) (t1 : us.tick ≤ 30000) :
    Calls Tryz.prog 67 #[.pointer (some ⟨b, 0, none⟩), .int .i64 x, .int .i64 y] w fun r w' => r = .returned (.tuple #[]) ∧ (∃ us' rs', US.Given us x y us' ∧ rs'.length = rs.length ∧ UnitAt (Gr O w) w' b L us' rs') ∧ Ch O w w' := by
  have OK := Lib.hid ok
  have HC := Lib.hid hc
  clear ok hc
  obtain ⟨m, bl, be, vc, h⟩ := h
  have HU := Lib.hid h
  obtain ⟨-, l1, -, l3, l4, -, -⟩ := h.blk.cells7
  have HWk := Lib.hid (unit_works w b us.mode l3)
  have HEp := Lib.hid (lease_epoch w be us.ep us.en us.gr h.lease)
  have HGr := Lib.hid (lease_grant w.drew be us.ep us.en x us.tick us.gr h.lease (by omega) (by omega))
  have hO := Lib.hid h.oe
  have T1 := Lib.hid t1
  have ed : Hid (US.works us = (us.mode == 3 || us.mode == 4)) := rfl
  clear h
  have fin : Hid (∀ w1, LeaseAt 149 w1 be x (us.tick + 8 - 3) true → Ch (fun g => g = be) w.drew w1 → UnitP O m w1 b bl be vc L (us.grant x) rs ∧ Ch O w w1) := fun w1 hl c => by
    have c' : Ch (fun g => g = be) w w1 := ((Ch.refl _ w).drew).trans c
    exact ⟨HU.out.own (us' := us.grant x) (c'.blk HU.out.blk HU.out.ne.symm) c' (fun g hg _ => .inr hg) HU.out.oe HU.out.me hl HU.out.copy, c'.mono fun g _ e => e ▸ hO.out⟩
  by_cases hw : (us.mode == 3 || us.mode == 4) = true
  · rw [hw] at HWk
    rw [hw] at ed
    by_cases he : us.ep = x
    · have he' : (us.ep == x) = true := by simpa using he
      have HR : Hid (US.Given us x y (us.grant x)) := .inl ⟨ed.out, he, rfl⟩
      clear hw he t1
      go_enter Tryz.func67, Tryz.ntmps67
      go_wp2_with fail
      refine HWk.out.mono ?_
      rintro e w1 ⟨rfl, rfl⟩
      go_wp2_with fail
      refine HEp.out.mono ?_
      rintro e w2 ⟨rfl, rfl⟩
      go_wp2_with fail
      go_still_tail 9, (by kernel_rfl)
      change wpList _ _ _ _ _ w2.drew
      go_wp2_with fail
      refine HGr.out.mono ?_
      rintro e w1 ⟨rfl, hl, c1⟩
      obtain ⟨h1, c2⟩ := fin.out w1 hl c1
      have H1 := Lib.hid h1
      clear hl h1
      go_wp2_with fail
      go_end0
      exact ⟨rfl, ⟨_, _, HR.out, rfl, m, bl, be, vc, H1.out.mono fun g hg _ => .inl hg⟩, c2⟩
    · have he' : (us.ep == x) = false := by simpa using he
      have HR : Hid (∀ u, US.Begun (us.grant x) y u → US.Given us x y { u with cp := none }) := fun u hu => .inr (.inl ⟨.inl ⟨ed.out, he⟩, u, hu, rfl⟩)
      clear hw he t1
      go_enter Tryz.func67, Tryz.ntmps67
      go_wp2_with fail
      refine HWk.out.mono ?_
      rintro e w1 ⟨rfl, rfl⟩
      go_wp2_with fail
      refine HEp.out.mono ?_
      rintro e w2 ⟨rfl, rfl⟩
      go_wp2_with fail
      refine HWk.out.mono ?_
      rintro e w3 ⟨rfl, rfl⟩
      go_wp2_with fail
      go_still_tail 9, (by kernel_rfl)
      change wpList _ _ _ _ _ w3.drew
      go_wp2_with fail
      refine HGr.out.mono ?_
      rintro e w1 ⟨rfl, hl, c1⟩
      obtain ⟨h1, c2⟩ := fin.out w1 hl c1
      have H1 := Lib.hid h1
      clear hl h1
      go_wp2_with fail
      have HBg := Lib.hid (unit_begins O w1 b L (us.grant x) rs x y ⟨m, bl, be, vc, H1.out⟩ OK.out HC.out)
      refine HBg.out.mono ?_
      rintro e w5 ⟨rfl, ⟨us', rs', hb, hl', h5⟩, c5⟩
      have HB := Lib.hid hb
      have HL' := Lib.hid hl'
      clear hb hl'
      obtain ⟨m5, bl5, be5, vc5, h5⟩ := h5
      have f2 := h5.blk.free 2
      obtain ⟨-, -, l2, -, -, -, -⟩ := h5.blk.cells7
      have H5 := Lib.hid h5
      clear h5
      go_wp2_with fail
      go_end0
      have cc : Ch (fun g => g = b) w5 (w5.setCell ⟨b, 2, none⟩ (.pointer none)) := (Ch.refl _ _).set1 _ _
      have HP := H5.out.own (us' := { us' with cp := none }) (by have := H5.out.blk.set 2 (.pointer none); simpa using this) cc (fun g hg _ => .inl hg) H5.out.oe H5.out.me (Blk.other H5.out.lease H5.out.ne _ _) rfl
      refine ⟨rfl, ⟨_, rs', HR.out _ HB.out, HL'.out, m5, bl5, be5, _, HP.mono fun g hg _ => Gr.le c2.size g hg⟩, (c2.trans c5).then cc fun g hl hg => ?_⟩
      subst hg
      exact HU.out.ob
  · have hw' : (us.mode == 3 || us.mode == 4) = false := by simpa using hw
    rw [hw'] at HWk
    rw [hw'] at ed
    clear hw
    by_cases h2 : us.mode = 2
    · have HR : Hid (∀ u, US.Begun (us.grant x) y u → US.Given us x y { u with cp := none }) := fun u hu => .inr (.inl ⟨.inr h2, u, hu, rfl⟩)
      rw [h2] at l3
      clear h2 hw' t1
      go_enter Tryz.func67, Tryz.ntmps67
      go_wp2_with fail
      refine HWk.out.mono ?_
      rintro e w1 ⟨rfl, rfl⟩
      go_wp2_with fail
      refine HWk.out.mono ?_
      rintro e w3 ⟨rfl, rfl⟩
      go_wp2_with fail
      go_still_tail 9, (by kernel_rfl)
      change wpList _ _ _ _ _ w3.drew
      go_wp2_with fail
      refine HGr.out.mono ?_
      rintro e w1 ⟨rfl, hl, c1⟩
      obtain ⟨h1, c2⟩ := fin.out w1 hl c1
      have H1 := Lib.hid h1
      clear hl h1
      go_wp2_with fail
      have HBg := Lib.hid (unit_begins O w1 b L (us.grant x) rs x y ⟨m, bl, be, vc, H1.out⟩ OK.out HC.out)
      refine HBg.out.mono ?_
      rintro e w5 ⟨rfl, ⟨us', rs', hb, hl', h5⟩, c5⟩
      have HB := Lib.hid hb
      have HL' := Lib.hid hl'
      clear hb hl'
      obtain ⟨m5, bl5, be5, vc5, h5⟩ := h5
      have f2 := h5.blk.free 2
      obtain ⟨-, -, l2, -, -, -, -⟩ := h5.blk.cells7
      have H5 := Lib.hid h5
      clear h5
      go_wp2_with fail
      go_end0
      have cc : Ch (fun g => g = b) w5 (w5.setCell ⟨b, 2, none⟩ (.pointer none)) := (Ch.refl _ _).set1 _ _
      have HP := H5.out.own (us' := { us' with cp := none }) (by have := H5.out.blk.set 2 (.pointer none); simpa using this) cc (fun g hg _ => .inl hg) H5.out.oe H5.out.me (Blk.other H5.out.lease H5.out.ne _ _) rfl
      refine ⟨rfl, ⟨_, rs', HR.out _ HB.out, HL'.out, m5, bl5, be5, _, HP.mono fun g hg _ => Gr.le c2.size g hg⟩, (c2.trans c5).then cc fun g hl hg => ?_⟩
      subst hg
      exact HU.out.ob
    · have HR : Hid (US.Given us x y us) := .inr (.inr ⟨ed.out, h2, rfl⟩)
      have h2' : (us.mode == 2) = false := by simpa using h2
      clear h2 hw' t1
      go_enter Tryz.func67, Tryz.ntmps67
      go_wp2_with fail
      refine HWk.out.mono ?_
      rintro e w1 ⟨rfl, rfl⟩
      go_wp2_with fail
      refine HWk.out.mono ?_
      rintro e w3 ⟨rfl, rfl⟩
      go_wp2_with fail
      go_end0
      exact ⟨rfl, ⟨_, _, HR.out, rfl, m, bl, be, vc, HU.out.mono fun g hg _ => .inl hg⟩, Ch.refl _ _⟩
end Go.Proofs.YtkplgggdidhnoaaGreatDoor

namespace Go.Proofs.YtkplgggdidhnoaaGreatDoor
open Go.ChangeShapes Go.WideShapes Go.ChangeAt Go.RowKit
set_option linter.unusedVariables false

def US.new : US := ⟨2, 0, 0, 0, 0, 0, false, none⟩
theorem Blk.cells4' {w : World} {b : Nat} {T : TypeId} {v1 v2 v3 v4 : Value} (h : Blk w b T #[v1, v2, v3, v4]) : w.cell? ⟨b, 0, none⟩ = some v1 ∧ w.cell? ⟨b, 1, none⟩ = some v2 ∧ w.cell? ⟨b, 2, none⟩ = some v3 ∧ w.cell? ⟨b, 3, none⟩ = some v4 := ⟨h.cell 0, h.cell 1, h.cell 2, h.cell 3⟩

set_option maxHeartbeats 4000000 in
theorem unit_new (B : Nat → Prop) (w : World) (v : Value) (L : Lay) (hL : LayAt B w v L) (ok : LayOk L) (hT : Tabs w) :
    Calls Tryz.prog 25 #[v] w fun r w' => ∃ b, r = .returned (.tuple #[.pointer (some ⟨b, 0, none⟩), .int .i64 0]) ∧ UnitAt (New w.heap.size) w' b L US.new (List.replicate L.routes.length RS.idle) ∧ Ch Noone w w' := by
  have HL := Lib.hid hL
  have HT := Lib.hid hT
  have OK := Lib.hid ok
  clear hT ok
  obtain ⟨q1, q2, q3, q4, rs, rfl, -, -, -, -, -, -⟩ := hL
  have C0 : Ch Noone w (w.alloc (.cells #[q1, q2, q3, q4] 26)) := (Ch.refl _ _).alloc _
  go_enter Tryz.func25, Tryz.ntmps25
  go_wp2_with fail
  refine (lock_new B _ _ L (HL.out.ch0 C0) OK.out (HT.out.ch0 C0)).mono ?_
  rintro e w1 ⟨bl, rfl, h1, c1⟩
  have H1 := Lib.hid h1; clear h1
  go_wp2_with fail
  refine (lease_new w1).mono ?_
  rintro e w2 ⟨rfl, hw⟩
  have c2 : Ch Noone w1 w2 := by rw [hw]; exact (Ch.refl _ _).alloc _
  have le : LeaseAt 149 w2 w1.heap.size 0 0 false := by rw [hw]; exact Blk.new _ _ _
  have sz : w2.heap.size = w1.heap.size + 1 := by rw [hw]; simp
  clear hw
  have LE := Lib.hid le; clear le
  have SZ := Lib.hid sz; clear sz
  go_wp2_with fail
  go_ret2
  have C1 := C0.trans c1
  have z1 := C1.size
  have z2 := H1.out.lt
  have sz := SZ.out
  refine ⟨w2.heap.size, rfl, ⟨fun g => if g = w2.heap.size then 0 else if g = w1.heap.size then 2 else 1, bl, w1.heap.size, .pointer none, ⟨by show w.heap.size ≤ _; omega, z1, if_pos rfl, (if_neg (by omega)).trans (if_pos rfl), Blk.new _ _ _, ?_, LE.out.alloc _, rfl⟩⟩, (C1.trans c2).alloc _⟩
  refine (((H1.out.mono fun g hg hl => ?_).ch c2 (fun _ _ _ h => h)).ch ((Ch.refl Noone _).alloc _) (fun _ _ _ h => h))
  have hg' : (w.alloc (.cells #[q1, q2, q3, q4] 26)).heap.size ≤ g := hg
  have := C0.size
  refine ⟨by show w.heap.size ≤ g; omega, ?_⟩
  rw [if_neg (by omega), if_neg (by omega)]

theorem unpack_no (w : World) (a : Option Addr) (n c : Nat) (hn : n ≤ 6) :
    Calls Tryz.prog 57 #[.slice a n c] w fun r w' => r = .returned (.tuple #[.pointer none, .int .i64 2]) ∧ w' = w := by
  go_enter Tryz.func57, Tryz.ntmps57
  go_wp2_with fail
  go_ret2
  exact ⟨rfl, rfl⟩

/-- Hear where nothing is heard. -/
theorem unit_hear0 (O : Nat → Prop) (w : World) (b : Nat) (L : Lay) (us : US) (rs : List RS) (a : Option Addr) (n c : Nat) (h : UnitAt O w b L us rs) (hn : us.mode ≠ 2 ∨ n ≤ 6) :
    Calls Tryz.prog 30 #[.pointer (some ⟨b, 0, none⟩), .slice a n c] w fun r w' => r = .returned (.tuple #[]) ∧ w' = w := by
  obtain ⟨m, bl, be, vc, h⟩ := h
  obtain ⟨-, -, -, l3, -, -, -⟩ := h.blk.cells7
  clear h
  by_cases h2 : us.mode = 2
  · have hn' : n ≤ 6 := hn.resolve_left (fun h => h h2)
    rw [h2] at l3
    clear hn h2
    go_enter Tryz.func30, Tryz.ntmps30
    go_wp2_with fail
    refine (unpack_no w a n c hn').mono ?_
    rintro e w1 ⟨rfl, rfl⟩
    go_wp2_with fail
    (try simp only [Exit.inBlock, Exit.then])
    refine bodyPost_ret (results_none rfl _ _ _) rfl ?_
    exact ⟨rfl, rfl⟩
  · have h2' : (us.mode != 2) = true := by simpa using h2
    clear hn h2
    go_enter Tryz.func30, Tryz.ntmps30
    go_wp2_with fail
    (try simp only [Exit.inBlock, Exit.then])
    refine bodyPost_ret (results_none rfl _ _ _) rfl ?_
    exact ⟨rfl, rfl⟩

theorem unit_send0 (O : Nat → Prop) (w : World) (b : Nat) (L : Lay) (us : US) (rs : List RS) (h : UnitAt O w b L us rs) (h3 : us.mode ≠ 3) :
    Calls Tryz.prog 73 #[.pointer (some ⟨b, 0, none⟩)] w fun r w' => r = .returned (.slice none 0 0) ∧ w' = w := by
  obtain ⟨m, bl, be, vc, h⟩ := h
  obtain ⟨-, -, -, l3, -, -, -⟩ := h.blk.cells7
  have h3' : (us.mode != 3) = true := by simpa using h3
  clear h h3
  go_enter Tryz.func73, Tryz.ntmps73
  go_wp2_with fail
  go_ret
  exact ⟨rfl, rfl⟩
end Go.Proofs.YtkplgggdidhnoaaGreatDoor

namespace Go.Proofs.YtkplgggdidhnoaaGreatDoor
open Go.ChangeShapes Go.WideShapes Go.ChangeAt Go.RowKit
set_option linter.unusedVariables false

def US.counted (us : US) : US := { us with count := if us.count < 9223372036854775807 then us.count + 1 else us.count }
/-- How a unit stands behind its cycle. -/
def US.cyc (us : US) : US :=
  if (us.works && live us.en us.gr us.tick) = true then
    (if us.mode = 3 then us.counted else { us.counted with left := us.left - 1, mode := if us.left - 1 ≤ 0 then 3 else us.mode })
  else us

set_option maxRecDepth 100000 in
set_option maxHeartbeats 4000000 in
theorem unit_cycle0 (O : Nat → Prop) (w : World) (b : Nat) (L : Lay) (us : US) (rs : List RS) (x1 x2 vc : Value) (on : Bool) (h : UnitAt O w b L us rs) (ok : LayOk L) (hm : us.mode ≠ 3) (k0 : -9223372036854775808 ≤ us.count) (k1 : -30000 ≤ us.left) (k2 : us.left ≤ 30000) :
    Calls Tryz.prog 69 #[.pointer (some ⟨b, 0, none⟩), .agg #[x1, x2], .bool on, vc] w fun r w' => (∃ v, r = .returned v ∧ OutAt (New w.heap.size) w' v (List.replicate L.pts.length 0) (List.replicate L.sigs.length false)) ∧ UnitAt O w' b L us.cyc rs ∧ Ch O w w' := by
  have OK := Lib.hid ok
  clear ok
  obtain ⟨m, bl, be, vv, h⟩ := h
  obtain ⟨w0, hw0⟩ : ∃ w0, w0 = (w.alloc (.cells #[x1, x2] 133)).alloc (.cells #[.slice none 0 0, .slice none 0 0] 36) := ⟨_, rfl⟩
  have c0 : Ch Noone w w0 := by rw [hw0]; exact ((Ch.refl _ _).alloc _).alloc _
  have hP : UnitP (fun g => O g ∧ g < w.heap.size) m w b bl be vv L us rs := h.mono fun g hg hl => ⟨hg, hl⟩
  have h0 := hP.ch c0 (fun _ _ _ h => h)
  have x0 : Blk w0 (w.heap.size + 1) 36 #[.slice none 0 0, .slice none 0 0] := by rw [hw0]; exact Blk.new2 _ _ _ _
  have HW0 := Lib.hid hw0
  have K0 := Lib.hid k0
  have HU := Lib.hid h
  have H0 := Lib.hid h0
  have X0 := Lib.hid x0
  have HWk := Lib.hid (fun k => unit_works (w0.drewN k) b us.mode (h0.blk.cells7.2.2.2.1))
  have HLv := Lib.hid (fun k => lease_live (w0.drewN k) be us.ep us.en us.tick us.gr h0.lease)
  have ed : Hid (US.works us = (us.mode == 3 || us.mode == 4)) := rfl
  obtain ⟨l0, l1, -, l3, l4, l5, l6⟩ := h0.blk.cells7
  have f3 := h0.blk.free 3
  have f5 := h0.blk.free 5
  have f6 := h0.blk.free 6
  have hm3 : (us.mode == 3) = false := by simpa using hm
  clear h hP h0 hw0 k0 x0
  by_cases hw : (us.works && live us.en us.gr us.tick) = true
  · have hwk : (us.mode == 3 || us.mode == 4) = true := by rw [← ed.out]; simpa using (Bool.and_eq_true_iff.1 hw).1
    have hlv : live us.en us.gr us.tick = true := (Bool.and_eq_true_iff.1 hw).2
    rw [hwk] at HWk
    rw [hlv] at HLv
    have hm4 : us.mode = 4 := by simpa [hm3] using hwk
    have HS0 : Hid (us.cyc = { us.counted with left := us.left - 1, mode := if us.left - 1 ≤ 0 then 3 else us.mode }) := by unfold Hid US.cyc; rw [if_pos hw, if_neg hm]
    clear hwk hlv
    by_cases hcn : us.count < 9223372036854775807
    · by_cases hla : us.left - 1 ≤ 0
      · have HSc : Hid (us.counted = { us with count := us.count + 1 }) := by unfold Hid US.counted; rw [if_pos hcn]
        have HS : Hid (us.cyc = { us with count := us.count + 1, left := us.left - 1, mode := 3 }) := by unfold Hid; rw [HS0.out, HSc.out, if_pos hla]
        have hla' : us.left - 1 ≤ 0 := hla
        rw [hm4] at l3
        have HM4 := Lib.hid hm4
        clear hla hm hm3 hw hm4
        have k0 := K0.out
        go_enter Tryz.func69, Tryz.ntmps69
        go_wp2_with fail
        rw [← HW0.out]
        go_big_quiet ((first | (go_at_call 52; with_reducible refine Calls.quiet_of_same (HWk.out _)) | (go_at_call 53; with_reducible refine Calls.quiet_of_same (HLv.out _))))
        go_wp2_with fail
        have cA : Ch (fun g => g = b) (w0.drewN nq) ((((w0.drewN nq).setCell ⟨b, 5, none⟩ (.int .i64 (us.count + 1))).setCell ⟨b, 6, none⟩ (.int .i64 (us.left - 1))).setCell ⟨b, 3, none⟩ (.int .i64 3)) := ((((Ch.refl _ _).set1 _ _).set1 _ _).set1 _ _)
        have HA : Hid (UnitP (fun g => O g ∧ g < w.heap.size) m ((((w0.drewN nq).setCell ⟨b, 5, none⟩ (.int .i64 (us.count + 1))).setCell ⟨b, 6, none⟩ (.int .i64 (us.left - 1))).setCell ⟨b, 3, none⟩ (.int .i64 3)) b bl be vv L us.cyc rs) := by
          rw [HS.out]
          exact (H0.out.drewN nq).own (by have := ((((H0.out.drewN nq).blk.set 5 (.int .i64 (us.count + 1))).set 6 (.int .i64 (us.left - 1))).set 3 (.int .i64 3)); simpa [HM4.out] using this) cA (fun g hg _ => .inl hg) H0.out.oe H0.out.me (Blk.other (Blk.other (Blk.other (H0.out.drewN nq).lease H0.out.ne _ _) H0.out.ne _ _) H0.out.ne _ _) H0.out.copy
        have HXA : Hid (Blk ((((w0.drewN nq).setCell ⟨b, 5, none⟩ (.int .i64 (us.count + 1))).setCell ⟨b, 6, none⟩ (.int .i64 (us.left - 1))).setCell ⟨b, 3, none⟩ (.int .i64 3)) (w.heap.size + 1) 36 #[.slice none 0 0, .slice none 0 0]) := cA.blk X0.out.drew (by have := HU.out.blk.lt; omega)
        refine (lock_safe _ _ bl L rs HA.out.lock OK.out).mono ?_
        rintro e w3 ⟨v, rfl, ⟨v1, v2, rfl, hd, hp⟩, c3⟩
        have HD := Lib.hid hd
        have HP := Lib.hid hp
        obtain ⟨e1, f1, rfl, -, -, -, -⟩ := hd.sl
        obtain ⟨e2, f2, rfl, -, -, -, -⟩ := hp.sl
        have hx := c3.blk (HXA.out) (fun h => h)
        have y0 := hx.cell 0
        have y1 := hx.cell 1
        have g0 := hx.free 0
        have g1 := hx.free 1
        simp only [List.getElem?_toArray, List.getElem?_cons_zero, List.getElem?_cons_succ] at y0 y1
        have HX := Lib.hid hx
        clear hd hp hx
        go_wp2_with fail
        (try simp only [Exit.inBlock, Exit.then])
        have hx2 : Blk ((w3.setCell ⟨w.heap.size + 1, 0, none⟩ (.slice e1 (List.replicate L.pts.length (0 : Int)).length f1)).setCell ⟨w.heap.size + 1, 1, none⟩ (.slice e2 (List.replicate L.sigs.length false).length f2)) (w.heap.size + 1) 36 #[.slice e1 (List.replicate L.pts.length (0 : Int)).length f1, .slice e2 (List.replicate L.sigs.length false).length f2] := by
          have := (HX.out.set 0 (.slice e1 (List.replicate L.pts.length (0 : Int)).length f1)).set 1 (.slice e2 (List.replicate L.sigs.length false).length f2)
          simpa using this
        have cx : Ch (fun g => g = w.heap.size + 1) w3 ((w3.setCell ⟨w.heap.size + 1, 0, none⟩ (.slice e1 (List.replicate L.pts.length (0 : Int)).length f1)).setCell ⟨w.heap.size + 1, 1, none⟩ (.slice e2 (List.replicate L.sigs.length false).length f2)) := ((Ch.refl _ _).set1 _ _).set1 _ _
        simp only [List.length_replicate] at hx2 cx
        have sz : w0.heap.size = w.heap.size + 2 := by rw [HW0.out]; simp
        have s3 := c3.size
        have sA : w0.heap.size ≤ _ := cA.size
        have HF : OutAt (New w.heap.size) ((w3.setCell ⟨w.heap.size + 1, 0, none⟩ (.slice e1 L.pts.length f1)).setCell ⟨w.heap.size + 1, 1, none⟩ (.slice e2 L.sigs.length f2)) (.agg #[.slice e1 L.pts.length f1, .slice e2 L.sigs.length f2]) (List.replicate L.pts.length 0) (List.replicate L.sigs.length false) := by
          have ho : OutAt (New (w.heap.size + 2)) w3 (.agg #[.slice e1 L.pts.length f1, .slice e2 L.sigs.length f2]) (List.replicate L.pts.length 0) (List.replicate L.sigs.length false) := by
            have hd := HD.out
            have hp := HP.out
            simp only [List.length_replicate] at hd hp
            refine ⟨_, _, rfl, ?_, ?_⟩
            · rw [List.length_replicate]; exact hd.mono fun g hg _ => by have h : _ ≤ g := hg; exact (by show w.heap.size + 2 ≤ g; (have h' : w0.heap.size ≤ g := Nat.le_trans sA h); omega)
            · rw [List.length_replicate]; exact hp.mono fun g hg _ => ⟨by have h : _ ≤ g := hg.1; exact (by show w.heap.size + 2 ≤ g; (have h' : w0.heap.size ≤ g := Nat.le_trans sA h); omega), hg.2⟩
          refine (ho.ch cx fun g hg _ e => ?_).mono fun g hg _ => ?_
          · have h : w.heap.size + 2 ≤ g := hg; omega
          · have h : w.heap.size + 2 ≤ g := hg; show w.heap.size ≤ g; omega
        refine bodyPost_ret (results_cell_row (P := Tryz.prog) rfl _ _ (w.heap.size + 1) _ _ _ _ rfl hx2 Tryz.underlying36 rfl (by kernel_rfl)) rfl ?_
        have cS : Ch (fun g => g = w.heap.size + 1) ((((w0.drewN nq).setCell ⟨b, 5, none⟩ (.int .i64 (us.count + 1))).setCell ⟨b, 6, none⟩ (.int .i64 (us.left - 1))).setCell ⟨b, 3, none⟩ (.int .i64 3)) ((w3.setCell ⟨w.heap.size + 1, 0, none⟩ (.slice e1 L.pts.length f1)).setCell ⟨w.heap.size + 1, 1, none⟩ (.slice e2 L.sigs.length f2)) := (c3.mono fun _ _ h => h.elim).trans cx
        have cF : Ch O w ((w3.setCell ⟨w.heap.size + 1, 0, none⟩ (.slice e1 L.pts.length f1)).setCell ⟨w.heap.size + 1, 1, none⟩ (.slice e2 L.sigs.length f2)) := ((((c0.mono fun _ _ h => h.elim).drewN nq).then cA fun g hl e => e ▸ HU.out.ob).then cS fun g hl e => by omega)
        exact ⟨⟨_, rfl, HF⟩, ⟨m, bl, be, vv, (HA.out.ch cS (fun g hg _ e => by have := hg.2; omega)).mono fun g hg _ => hg.1⟩, cF⟩
      · have HSc : Hid (us.counted = { us with count := us.count + 1 }) := by unfold Hid US.counted; rw [if_pos hcn]
        have HS : Hid (us.cyc = { us with count := us.count + 1, left := us.left - 1, mode := 4 }) := by unfold Hid; rw [HS0.out, HSc.out, if_neg hla]; simp [hm4]
        have hla' : 0 < us.left - 1 := by omega
        rw [hm4] at l3
        have HM4 := Lib.hid hm4
        clear hla hm hm3 hw hm4
        have k0 := K0.out
        go_enter Tryz.func69, Tryz.ntmps69
        go_wp2_with fail
        rw [← HW0.out]
        go_big_quiet ((first | (go_at_call 52; with_reducible refine Calls.quiet_of_same (HWk.out _)) | (go_at_call 53; with_reducible refine Calls.quiet_of_same (HLv.out _))))
        go_wp2_with fail
        have cA : Ch (fun g => g = b) (w0.drewN nq) (((w0.drewN nq).setCell ⟨b, 5, none⟩ (.int .i64 (us.count + 1))).setCell ⟨b, 6, none⟩ (.int .i64 (us.left - 1))) := (((Ch.refl _ _).set1 _ _).set1 _ _)
        have HA : Hid (UnitP (fun g => O g ∧ g < w.heap.size) m (((w0.drewN nq).setCell ⟨b, 5, none⟩ (.int .i64 (us.count + 1))).setCell ⟨b, 6, none⟩ (.int .i64 (us.left - 1))) b bl be vv L us.cyc rs) := by
          rw [HS.out]
          exact (H0.out.drewN nq).own (by have := (((H0.out.drewN nq).blk.set 5 (.int .i64 (us.count + 1))).set 6 (.int .i64 (us.left - 1))); simpa [HM4.out] using this) cA (fun g hg _ => .inl hg) H0.out.oe H0.out.me (Blk.other (Blk.other (H0.out.drewN nq).lease H0.out.ne _ _) H0.out.ne _ _) H0.out.copy
        have HXA : Hid (Blk (((w0.drewN nq).setCell ⟨b, 5, none⟩ (.int .i64 (us.count + 1))).setCell ⟨b, 6, none⟩ (.int .i64 (us.left - 1))) (w.heap.size + 1) 36 #[.slice none 0 0, .slice none 0 0]) := cA.blk X0.out.drew (by have := HU.out.blk.lt; omega)
        refine (lock_safe _ _ bl L rs HA.out.lock OK.out).mono ?_
        rintro e w3 ⟨v, rfl, ⟨v1, v2, rfl, hd, hp⟩, c3⟩
        have HD := Lib.hid hd
        have HP := Lib.hid hp
        obtain ⟨e1, f1, rfl, -, -, -, -⟩ := hd.sl
        obtain ⟨e2, f2, rfl, -, -, -, -⟩ := hp.sl
        have hx := c3.blk (HXA.out) (fun h => h)
        have y0 := hx.cell 0
        have y1 := hx.cell 1
        have g0 := hx.free 0
        have g1 := hx.free 1
        simp only [List.getElem?_toArray, List.getElem?_cons_zero, List.getElem?_cons_succ] at y0 y1
        have HX := Lib.hid hx
        clear hd hp hx
        go_wp2_with fail
        (try simp only [Exit.inBlock, Exit.then])
        have hx2 : Blk ((w3.setCell ⟨w.heap.size + 1, 0, none⟩ (.slice e1 (List.replicate L.pts.length (0 : Int)).length f1)).setCell ⟨w.heap.size + 1, 1, none⟩ (.slice e2 (List.replicate L.sigs.length false).length f2)) (w.heap.size + 1) 36 #[.slice e1 (List.replicate L.pts.length (0 : Int)).length f1, .slice e2 (List.replicate L.sigs.length false).length f2] := by
          have := (HX.out.set 0 (.slice e1 (List.replicate L.pts.length (0 : Int)).length f1)).set 1 (.slice e2 (List.replicate L.sigs.length false).length f2)
          simpa using this
        have cx : Ch (fun g => g = w.heap.size + 1) w3 ((w3.setCell ⟨w.heap.size + 1, 0, none⟩ (.slice e1 (List.replicate L.pts.length (0 : Int)).length f1)).setCell ⟨w.heap.size + 1, 1, none⟩ (.slice e2 (List.replicate L.sigs.length false).length f2)) := ((Ch.refl _ _).set1 _ _).set1 _ _
        simp only [List.length_replicate] at hx2 cx
        have sz : w0.heap.size = w.heap.size + 2 := by rw [HW0.out]; simp
        have s3 := c3.size
        have sA : w0.heap.size ≤ _ := cA.size
        have HF : OutAt (New w.heap.size) ((w3.setCell ⟨w.heap.size + 1, 0, none⟩ (.slice e1 L.pts.length f1)).setCell ⟨w.heap.size + 1, 1, none⟩ (.slice e2 L.sigs.length f2)) (.agg #[.slice e1 L.pts.length f1, .slice e2 L.sigs.length f2]) (List.replicate L.pts.length 0) (List.replicate L.sigs.length false) := by
          have ho : OutAt (New (w.heap.size + 2)) w3 (.agg #[.slice e1 L.pts.length f1, .slice e2 L.sigs.length f2]) (List.replicate L.pts.length 0) (List.replicate L.sigs.length false) := by
            have hd := HD.out
            have hp := HP.out
            simp only [List.length_replicate] at hd hp
            refine ⟨_, _, rfl, ?_, ?_⟩
            · rw [List.length_replicate]; exact hd.mono fun g hg _ => by have h : _ ≤ g := hg; exact (by show w.heap.size + 2 ≤ g; (have h' : w0.heap.size ≤ g := Nat.le_trans sA h); omega)
            · rw [List.length_replicate]; exact hp.mono fun g hg _ => ⟨by have h : _ ≤ g := hg.1; exact (by show w.heap.size + 2 ≤ g; (have h' : w0.heap.size ≤ g := Nat.le_trans sA h); omega), hg.2⟩
          refine (ho.ch cx fun g hg _ e => ?_).mono fun g hg _ => ?_
          · have h : w.heap.size + 2 ≤ g := hg; omega
          · have h : w.heap.size + 2 ≤ g := hg; show w.heap.size ≤ g; omega
        refine bodyPost_ret (results_cell_row (P := Tryz.prog) rfl _ _ (w.heap.size + 1) _ _ _ _ rfl hx2 Tryz.underlying36 rfl (by kernel_rfl)) rfl ?_
        have cS : Ch (fun g => g = w.heap.size + 1) (((w0.drewN nq).setCell ⟨b, 5, none⟩ (.int .i64 (us.count + 1))).setCell ⟨b, 6, none⟩ (.int .i64 (us.left - 1))) ((w3.setCell ⟨w.heap.size + 1, 0, none⟩ (.slice e1 L.pts.length f1)).setCell ⟨w.heap.size + 1, 1, none⟩ (.slice e2 L.sigs.length f2)) := (c3.mono fun _ _ h => h.elim).trans cx
        have cF : Ch O w ((w3.setCell ⟨w.heap.size + 1, 0, none⟩ (.slice e1 L.pts.length f1)).setCell ⟨w.heap.size + 1, 1, none⟩ (.slice e2 L.sigs.length f2)) := ((((c0.mono fun _ _ h => h.elim).drewN nq).then cA fun g hl e => e ▸ HU.out.ob).then cS fun g hl e => by omega)
        exact ⟨⟨_, rfl, HF⟩, ⟨m, bl, be, vv, (HA.out.ch cS (fun g hg _ e => by have := hg.2; omega)).mono fun g hg _ => hg.1⟩, cF⟩
    · by_cases hla : us.left - 1 ≤ 0
      · have HSc : Hid (us.counted = us) := by unfold Hid US.counted; rw [if_neg hcn]
        have HS : Hid (us.cyc = { us with left := us.left - 1, mode := 3 }) := by unfold Hid; rw [HS0.out, HSc.out, if_pos hla]
        have hla' : us.left - 1 ≤ 0 := hla
        have hcn' : us.count ≥ 9223372036854775807 := by omega
        rw [hm4] at l3
        have HM4 := Lib.hid hm4
        clear hla hm hm3 hw hm4 hcn
        go_enter Tryz.func69, Tryz.ntmps69
        go_wp2_with fail
        rw [← HW0.out]
        go_big_quiet ((first | (go_at_call 52; with_reducible refine Calls.quiet_of_same (HWk.out _)) | (go_at_call 53; with_reducible refine Calls.quiet_of_same (HLv.out _))))
        go_wp2_with fail
        have cA : Ch (fun g => g = b) (w0.drewN nq) (((w0.drewN nq).setCell ⟨b, 6, none⟩ (.int .i64 (us.left - 1))).setCell ⟨b, 3, none⟩ (.int .i64 3)) := (((Ch.refl _ _).set1 _ _).set1 _ _)
        have HA : Hid (UnitP (fun g => O g ∧ g < w.heap.size) m (((w0.drewN nq).setCell ⟨b, 6, none⟩ (.int .i64 (us.left - 1))).setCell ⟨b, 3, none⟩ (.int .i64 3)) b bl be vv L us.cyc rs) := by
          rw [HS.out]
          exact (H0.out.drewN nq).own (by have := (((H0.out.drewN nq).blk.set 6 (.int .i64 (us.left - 1))).set 3 (.int .i64 3)); simpa [HM4.out] using this) cA (fun g hg _ => .inl hg) H0.out.oe H0.out.me (Blk.other (Blk.other (H0.out.drewN nq).lease H0.out.ne _ _) H0.out.ne _ _) H0.out.copy
        have HXA : Hid (Blk (((w0.drewN nq).setCell ⟨b, 6, none⟩ (.int .i64 (us.left - 1))).setCell ⟨b, 3, none⟩ (.int .i64 3)) (w.heap.size + 1) 36 #[.slice none 0 0, .slice none 0 0]) := cA.blk X0.out.drew (by have := HU.out.blk.lt; omega)
        refine (lock_safe _ _ bl L rs HA.out.lock OK.out).mono ?_
        rintro e w3 ⟨v, rfl, ⟨v1, v2, rfl, hd, hp⟩, c3⟩
        have HD := Lib.hid hd
        have HP := Lib.hid hp
        obtain ⟨e1, f1, rfl, -, -, -, -⟩ := hd.sl
        obtain ⟨e2, f2, rfl, -, -, -, -⟩ := hp.sl
        have hx := c3.blk (HXA.out) (fun h => h)
        have y0 := hx.cell 0
        have y1 := hx.cell 1
        have g0 := hx.free 0
        have g1 := hx.free 1
        simp only [List.getElem?_toArray, List.getElem?_cons_zero, List.getElem?_cons_succ] at y0 y1
        have HX := Lib.hid hx
        clear hd hp hx
        go_wp2_with fail
        (try simp only [Exit.inBlock, Exit.then])
        have hx2 : Blk ((w3.setCell ⟨w.heap.size + 1, 0, none⟩ (.slice e1 (List.replicate L.pts.length (0 : Int)).length f1)).setCell ⟨w.heap.size + 1, 1, none⟩ (.slice e2 (List.replicate L.sigs.length false).length f2)) (w.heap.size + 1) 36 #[.slice e1 (List.replicate L.pts.length (0 : Int)).length f1, .slice e2 (List.replicate L.sigs.length false).length f2] := by
          have := (HX.out.set 0 (.slice e1 (List.replicate L.pts.length (0 : Int)).length f1)).set 1 (.slice e2 (List.replicate L.sigs.length false).length f2)
          simpa using this
        have cx : Ch (fun g => g = w.heap.size + 1) w3 ((w3.setCell ⟨w.heap.size + 1, 0, none⟩ (.slice e1 (List.replicate L.pts.length (0 : Int)).length f1)).setCell ⟨w.heap.size + 1, 1, none⟩ (.slice e2 (List.replicate L.sigs.length false).length f2)) := ((Ch.refl _ _).set1 _ _).set1 _ _
        simp only [List.length_replicate] at hx2 cx
        have sz : w0.heap.size = w.heap.size + 2 := by rw [HW0.out]; simp
        have s3 := c3.size
        have sA : w0.heap.size ≤ _ := cA.size
        have HF : OutAt (New w.heap.size) ((w3.setCell ⟨w.heap.size + 1, 0, none⟩ (.slice e1 L.pts.length f1)).setCell ⟨w.heap.size + 1, 1, none⟩ (.slice e2 L.sigs.length f2)) (.agg #[.slice e1 L.pts.length f1, .slice e2 L.sigs.length f2]) (List.replicate L.pts.length 0) (List.replicate L.sigs.length false) := by
          have ho : OutAt (New (w.heap.size + 2)) w3 (.agg #[.slice e1 L.pts.length f1, .slice e2 L.sigs.length f2]) (List.replicate L.pts.length 0) (List.replicate L.sigs.length false) := by
            have hd := HD.out
            have hp := HP.out
            simp only [List.length_replicate] at hd hp
            refine ⟨_, _, rfl, ?_, ?_⟩
            · rw [List.length_replicate]; exact hd.mono fun g hg _ => by have h : _ ≤ g := hg; exact (by show w.heap.size + 2 ≤ g; (have h' : w0.heap.size ≤ g := Nat.le_trans sA h); omega)
            · rw [List.length_replicate]; exact hp.mono fun g hg _ => ⟨by have h : _ ≤ g := hg.1; exact (by show w.heap.size + 2 ≤ g; (have h' : w0.heap.size ≤ g := Nat.le_trans sA h); omega), hg.2⟩
          refine (ho.ch cx fun g hg _ e => ?_).mono fun g hg _ => ?_
          · have h : w.heap.size + 2 ≤ g := hg; omega
          · have h : w.heap.size + 2 ≤ g := hg; show w.heap.size ≤ g; omega
        refine bodyPost_ret (results_cell_row (P := Tryz.prog) rfl _ _ (w.heap.size + 1) _ _ _ _ rfl hx2 Tryz.underlying36 rfl (by kernel_rfl)) rfl ?_
        have cS : Ch (fun g => g = w.heap.size + 1) (((w0.drewN nq).setCell ⟨b, 6, none⟩ (.int .i64 (us.left - 1))).setCell ⟨b, 3, none⟩ (.int .i64 3)) ((w3.setCell ⟨w.heap.size + 1, 0, none⟩ (.slice e1 L.pts.length f1)).setCell ⟨w.heap.size + 1, 1, none⟩ (.slice e2 L.sigs.length f2)) := (c3.mono fun _ _ h => h.elim).trans cx
        have cF : Ch O w ((w3.setCell ⟨w.heap.size + 1, 0, none⟩ (.slice e1 L.pts.length f1)).setCell ⟨w.heap.size + 1, 1, none⟩ (.slice e2 L.sigs.length f2)) := ((((c0.mono fun _ _ h => h.elim).drewN nq).then cA fun g hl e => e ▸ HU.out.ob).then cS fun g hl e => by omega)
        exact ⟨⟨_, rfl, HF⟩, ⟨m, bl, be, vv, (HA.out.ch cS (fun g hg _ e => by have := hg.2; omega)).mono fun g hg _ => hg.1⟩, cF⟩
      · have HSc : Hid (us.counted = us) := by unfold Hid US.counted; rw [if_neg hcn]
        have HS : Hid (us.cyc = { us with left := us.left - 1, mode := 4 }) := by unfold Hid; rw [HS0.out, HSc.out, if_neg hla]; simp [hm4]
        have hla' : 0 < us.left - 1 := by omega
        have hcn' : us.count ≥ 9223372036854775807 := by omega
        rw [hm4] at l3
        have HM4 := Lib.hid hm4
        clear hla hm hm3 hw hm4 hcn
        go_enter Tryz.func69, Tryz.ntmps69
        go_wp2_with fail
        rw [← HW0.out]
        go_big_quiet ((first | (go_at_call 52; with_reducible refine Calls.quiet_of_same (HWk.out _)) | (go_at_call 53; with_reducible refine Calls.quiet_of_same (HLv.out _))))
        go_wp2_with fail
        have cA : Ch (fun g => g = b) (w0.drewN nq) ((w0.drewN nq).setCell ⟨b, 6, none⟩ (.int .i64 (us.left - 1))) := ((Ch.refl _ _).set1 _ _)
        have HA : Hid (UnitP (fun g => O g ∧ g < w.heap.size) m ((w0.drewN nq).setCell ⟨b, 6, none⟩ (.int .i64 (us.left - 1))) b bl be vv L us.cyc rs) := by
          rw [HS.out]
          exact (H0.out.drewN nq).own (by have := ((H0.out.drewN nq).blk.set 6 (.int .i64 (us.left - 1))); simpa [HM4.out] using this) cA (fun g hg _ => .inl hg) H0.out.oe H0.out.me (Blk.other (H0.out.drewN nq).lease H0.out.ne _ _) H0.out.copy
        have HXA : Hid (Blk ((w0.drewN nq).setCell ⟨b, 6, none⟩ (.int .i64 (us.left - 1))) (w.heap.size + 1) 36 #[.slice none 0 0, .slice none 0 0]) := cA.blk X0.out.drew (by have := HU.out.blk.lt; omega)
        refine (lock_safe _ _ bl L rs HA.out.lock OK.out).mono ?_
        rintro e w3 ⟨v, rfl, ⟨v1, v2, rfl, hd, hp⟩, c3⟩
        have HD := Lib.hid hd
        have HP := Lib.hid hp
        obtain ⟨e1, f1, rfl, -, -, -, -⟩ := hd.sl
        obtain ⟨e2, f2, rfl, -, -, -, -⟩ := hp.sl
        have hx := c3.blk (HXA.out) (fun h => h)
        have y0 := hx.cell 0
        have y1 := hx.cell 1
        have g0 := hx.free 0
        have g1 := hx.free 1
        simp only [List.getElem?_toArray, List.getElem?_cons_zero, List.getElem?_cons_succ] at y0 y1
        have HX := Lib.hid hx
        clear hd hp hx
        go_wp2_with fail
        (try simp only [Exit.inBlock, Exit.then])
        have hx2 : Blk ((w3.setCell ⟨w.heap.size + 1, 0, none⟩ (.slice e1 (List.replicate L.pts.length (0 : Int)).length f1)).setCell ⟨w.heap.size + 1, 1, none⟩ (.slice e2 (List.replicate L.sigs.length false).length f2)) (w.heap.size + 1) 36 #[.slice e1 (List.replicate L.pts.length (0 : Int)).length f1, .slice e2 (List.replicate L.sigs.length false).length f2] := by
          have := (HX.out.set 0 (.slice e1 (List.replicate L.pts.length (0 : Int)).length f1)).set 1 (.slice e2 (List.replicate L.sigs.length false).length f2)
          simpa using this
        have cx : Ch (fun g => g = w.heap.size + 1) w3 ((w3.setCell ⟨w.heap.size + 1, 0, none⟩ (.slice e1 (List.replicate L.pts.length (0 : Int)).length f1)).setCell ⟨w.heap.size + 1, 1, none⟩ (.slice e2 (List.replicate L.sigs.length false).length f2)) := ((Ch.refl _ _).set1 _ _).set1 _ _
        simp only [List.length_replicate] at hx2 cx
        have sz : w0.heap.size = w.heap.size + 2 := by rw [HW0.out]; simp
        have s3 := c3.size
        have sA : w0.heap.size ≤ _ := cA.size
        have HF : OutAt (New w.heap.size) ((w3.setCell ⟨w.heap.size + 1, 0, none⟩ (.slice e1 L.pts.length f1)).setCell ⟨w.heap.size + 1, 1, none⟩ (.slice e2 L.sigs.length f2)) (.agg #[.slice e1 L.pts.length f1, .slice e2 L.sigs.length f2]) (List.replicate L.pts.length 0) (List.replicate L.sigs.length false) := by
          have ho : OutAt (New (w.heap.size + 2)) w3 (.agg #[.slice e1 L.pts.length f1, .slice e2 L.sigs.length f2]) (List.replicate L.pts.length 0) (List.replicate L.sigs.length false) := by
            have hd := HD.out
            have hp := HP.out
            simp only [List.length_replicate] at hd hp
            refine ⟨_, _, rfl, ?_, ?_⟩
            · rw [List.length_replicate]; exact hd.mono fun g hg _ => by have h : _ ≤ g := hg; exact (by show w.heap.size + 2 ≤ g; (have h' : w0.heap.size ≤ g := Nat.le_trans sA h); omega)
            · rw [List.length_replicate]; exact hp.mono fun g hg _ => ⟨by have h : _ ≤ g := hg.1; exact (by show w.heap.size + 2 ≤ g; (have h' : w0.heap.size ≤ g := Nat.le_trans sA h); omega), hg.2⟩
          refine (ho.ch cx fun g hg _ e => ?_).mono fun g hg _ => ?_
          · have h : w.heap.size + 2 ≤ g := hg; omega
          · have h : w.heap.size + 2 ≤ g := hg; show w.heap.size ≤ g; omega
        refine bodyPost_ret (results_cell_row (P := Tryz.prog) rfl _ _ (w.heap.size + 1) _ _ _ _ rfl hx2 Tryz.underlying36 rfl (by kernel_rfl)) rfl ?_
        have cS : Ch (fun g => g = w.heap.size + 1) ((w0.drewN nq).setCell ⟨b, 6, none⟩ (.int .i64 (us.left - 1))) ((w3.setCell ⟨w.heap.size + 1, 0, none⟩ (.slice e1 L.pts.length f1)).setCell ⟨w.heap.size + 1, 1, none⟩ (.slice e2 L.sigs.length f2)) := (c3.mono fun _ _ h => h.elim).trans cx
        have cF : Ch O w ((w3.setCell ⟨w.heap.size + 1, 0, none⟩ (.slice e1 L.pts.length f1)).setCell ⟨w.heap.size + 1, 1, none⟩ (.slice e2 L.sigs.length f2)) := ((((c0.mono fun _ _ h => h.elim).drewN nq).then cA fun g hl e => e ▸ HU.out.ob).then cS fun g hl e => by omega)
        exact ⟨⟨_, rfl, HF⟩, ⟨m, bl, be, vv, (HA.out.ch cS (fun g hg _ e => by have := hg.2; omega)).mono fun g hg _ => hg.1⟩, cF⟩
  · have HS : Hid (us.cyc = us) := if_neg hw
    rw [HS.out]
    have hw' : (us.works && live us.en us.gr us.tick) = false := by simpa using hw
    clear hw
    cases hk : (us.mode == 3 || us.mode == 4) with
    | false =>
      rw [hk] at HWk
      clear hk hw'
      go_enter Tryz.func69, Tryz.ntmps69
      go_wp2_with fail
      rw [← HW0.out]
      go_big_quiet ((first | (go_at_call 52; with_reducible refine Calls.quiet_of_same (HWk.out _)) | (go_at_call 53; with_reducible refine Calls.quiet_of_same (HLv.out _))))
      go_wp2_with fail
      refine (lock_safe _ _ bl L rs (H0.out.drewN _).lock OK.out).mono ?_
      rintro e w3 ⟨v, rfl, ⟨v1, v2, rfl, hd, hp⟩, c3⟩
      have HD := Lib.hid hd
      have HP := Lib.hid hp
      obtain ⟨e1, f1, rfl, -, -, -, -⟩ := hd.sl
      obtain ⟨e2, f2, rfl, -, -, -, -⟩ := hp.sl
      have hx := c3.blk (X0.out.drew) (fun h => h)
      have y0 := hx.cell 0
      have y1 := hx.cell 1
      have g0 := hx.free 0
      have g1 := hx.free 1
      simp only [List.getElem?_toArray, List.getElem?_cons_zero, List.getElem?_cons_succ] at y0 y1
      have HX := Lib.hid hx
      clear hd hp hx
      go_wp2_with fail
      (try simp only [Exit.inBlock, Exit.then])
      have hx2 : Blk ((w3.setCell ⟨w.heap.size + 1, 0, none⟩ (.slice e1 (List.replicate L.pts.length (0 : Int)).length f1)).setCell ⟨w.heap.size + 1, 1, none⟩ (.slice e2 (List.replicate L.sigs.length false).length f2)) (w.heap.size + 1) 36 #[.slice e1 (List.replicate L.pts.length (0 : Int)).length f1, .slice e2 (List.replicate L.sigs.length false).length f2] := by
        have := (HX.out.set 0 (.slice e1 (List.replicate L.pts.length (0 : Int)).length f1)).set 1 (.slice e2 (List.replicate L.sigs.length false).length f2)
        simpa using this
      have cx : Ch (fun g => g = w.heap.size + 1) w3 ((w3.setCell ⟨w.heap.size + 1, 0, none⟩ (.slice e1 (List.replicate L.pts.length (0 : Int)).length f1)).setCell ⟨w.heap.size + 1, 1, none⟩ (.slice e2 (List.replicate L.sigs.length false).length f2)) := ((Ch.refl _ _).set1 _ _).set1 _ _
      simp only [List.length_replicate] at hx2 cx
      have sz : w0.heap.size = w.heap.size + 2 := by rw [HW0.out]; simp
      have s3 := c3.size
      have HF : OutAt (New w.heap.size) ((w3.setCell ⟨w.heap.size + 1, 0, none⟩ (.slice e1 L.pts.length f1)).setCell ⟨w.heap.size + 1, 1, none⟩ (.slice e2 L.sigs.length f2)) (.agg #[.slice e1 L.pts.length f1, .slice e2 L.sigs.length f2]) (List.replicate L.pts.length 0) (List.replicate L.sigs.length false) := by
        have ho : OutAt (New (w.heap.size + 2)) w3 (.agg #[.slice e1 L.pts.length f1, .slice e2 L.sigs.length f2]) (List.replicate L.pts.length 0) (List.replicate L.sigs.length false) := by
          have hd := HD.out
          have hp := HP.out
          simp only [List.length_replicate] at hd hp
          refine ⟨_, _, rfl, ?_, ?_⟩
          · rw [List.length_replicate]; exact hd.mono fun g hg _ => by have h : _ ≤ g := hg; exact (by show w.heap.size + 2 ≤ g; (have h' : w0.heap.size ≤ g := h); omega)
          · rw [List.length_replicate]; exact hp.mono fun g hg _ => ⟨by have h : _ ≤ g := hg.1; exact (by show w.heap.size + 2 ≤ g; (have h' : w0.heap.size ≤ g := h); omega), hg.2⟩
        refine (ho.ch cx fun g hg _ e => ?_).mono fun g hg _ => ?_
        · have h : w.heap.size + 2 ≤ g := hg; omega
        · have h : w.heap.size + 2 ≤ g := hg; show w.heap.size ≤ g; omega
      refine bodyPost_ret (results_cell_row (P := Tryz.prog) rfl _ _ (w.heap.size + 1) _ _ _ _ rfl hx2 Tryz.underlying36 rfl (by kernel_rfl)) rfl ?_
      have cF : Ch Noone w ((w3.setCell ⟨w.heap.size + 1, 0, none⟩ (.slice e1 L.pts.length f1)).setCell ⟨w.heap.size + 1, 1, none⟩ (.slice e2 L.sigs.length f2)) := ((c0.drewN _).trans c3).then cx fun g hl e => by omega
      exact ⟨⟨_, rfl, HF⟩, ⟨m, bl, be, vv, HU.out.ch cF (fun _ _ _ h => h)⟩, cF.mono fun _ _ h => h.elim⟩
    | true =>
      rw [hk] at HWk
      have hlv : live us.en us.gr us.tick = false := by rw [ed.out, hk] at hw'; simpa using hw'
      rw [hlv] at HLv
      clear hk hw' hlv
      go_enter Tryz.func69, Tryz.ntmps69
      go_wp2_with fail
      rw [← HW0.out]
      go_big_quiet ((first | (go_at_call 52; with_reducible refine Calls.quiet_of_same (HWk.out _)) | (go_at_call 53; with_reducible refine Calls.quiet_of_same (HLv.out _))))
      go_wp2_with fail
      refine (lock_safe _ _ bl L rs (H0.out.drewN _).lock OK.out).mono ?_
      rintro e w3 ⟨v, rfl, ⟨v1, v2, rfl, hd, hp⟩, c3⟩
      have HD := Lib.hid hd
      have HP := Lib.hid hp
      obtain ⟨e1, f1, rfl, -, -, -, -⟩ := hd.sl
      obtain ⟨e2, f2, rfl, -, -, -, -⟩ := hp.sl
      have hx := c3.blk (X0.out.drew) (fun h => h)
      have y0 := hx.cell 0
      have y1 := hx.cell 1
      have g0 := hx.free 0
      have g1 := hx.free 1
      simp only [List.getElem?_toArray, List.getElem?_cons_zero, List.getElem?_cons_succ] at y0 y1
      have HX := Lib.hid hx
      clear hd hp hx
      go_wp2_with fail
      (try simp only [Exit.inBlock, Exit.then])
      have hx2 : Blk ((w3.setCell ⟨w.heap.size + 1, 0, none⟩ (.slice e1 (List.replicate L.pts.length (0 : Int)).length f1)).setCell ⟨w.heap.size + 1, 1, none⟩ (.slice e2 (List.replicate L.sigs.length false).length f2)) (w.heap.size + 1) 36 #[.slice e1 (List.replicate L.pts.length (0 : Int)).length f1, .slice e2 (List.replicate L.sigs.length false).length f2] := by
        have := (HX.out.set 0 (.slice e1 (List.replicate L.pts.length (0 : Int)).length f1)).set 1 (.slice e2 (List.replicate L.sigs.length false).length f2)
        simpa using this
      have cx : Ch (fun g => g = w.heap.size + 1) w3 ((w3.setCell ⟨w.heap.size + 1, 0, none⟩ (.slice e1 (List.replicate L.pts.length (0 : Int)).length f1)).setCell ⟨w.heap.size + 1, 1, none⟩ (.slice e2 (List.replicate L.sigs.length false).length f2)) := ((Ch.refl _ _).set1 _ _).set1 _ _
      simp only [List.length_replicate] at hx2 cx
      have sz : w0.heap.size = w.heap.size + 2 := by rw [HW0.out]; simp
      have s3 := c3.size
      have HF : OutAt (New w.heap.size) ((w3.setCell ⟨w.heap.size + 1, 0, none⟩ (.slice e1 L.pts.length f1)).setCell ⟨w.heap.size + 1, 1, none⟩ (.slice e2 L.sigs.length f2)) (.agg #[.slice e1 L.pts.length f1, .slice e2 L.sigs.length f2]) (List.replicate L.pts.length 0) (List.replicate L.sigs.length false) := by
        have ho : OutAt (New (w.heap.size + 2)) w3 (.agg #[.slice e1 L.pts.length f1, .slice e2 L.sigs.length f2]) (List.replicate L.pts.length 0) (List.replicate L.sigs.length false) := by
          have hd := HD.out
          have hp := HP.out
          simp only [List.length_replicate] at hd hp
          refine ⟨_, _, rfl, ?_, ?_⟩
          · rw [List.length_replicate]; exact hd.mono fun g hg _ => by have h : _ ≤ g := hg; exact (by show w.heap.size + 2 ≤ g; (have h' : w0.heap.size ≤ g := h); omega)
          · rw [List.length_replicate]; exact hp.mono fun g hg _ => ⟨by have h : _ ≤ g := hg.1; exact (by show w.heap.size + 2 ≤ g; (have h' : w0.heap.size ≤ g := h); omega), hg.2⟩
        refine (ho.ch cx fun g hg _ e => ?_).mono fun g hg _ => ?_
        · have h : w.heap.size + 2 ≤ g := hg; omega
        · have h : w.heap.size + 2 ≤ g := hg; show w.heap.size ≤ g; omega
      refine bodyPost_ret (results_cell_row (P := Tryz.prog) rfl _ _ (w.heap.size + 1) _ _ _ _ rfl hx2 Tryz.underlying36 rfl (by kernel_rfl)) rfl ?_
      have cF : Ch Noone w ((w3.setCell ⟨w.heap.size + 1, 0, none⟩ (.slice e1 L.pts.length f1)).setCell ⟨w.heap.size + 1, 1, none⟩ (.slice e2 L.sigs.length f2)) := ((c0.drewN _).trans c3).then cx fun g hl e => by omega
      exact ⟨⟨_, rfl, HF⟩, ⟨m, bl, be, vv, HU.out.ch cF (fun _ _ _ h => h)⟩, cF.mono fun _ _ h => h.elim⟩
end Go.Proofs.YtkplgggdidhnoaaGreatDoor
