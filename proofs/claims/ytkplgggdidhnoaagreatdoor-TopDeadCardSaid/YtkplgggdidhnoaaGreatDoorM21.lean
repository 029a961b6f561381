/-
  The contract of pair: New. Conditions: sizes. pointsmantop.calm: lists of at most eight events each, trains, commands and points that stick alone. Conditions: no list is longer than 2097152. pointsmantop.one and known: a layout of one route; the pair over it answers as known says. Condition: the tables of unicode/utf8 are laid. The law TopDead: what it answers is true. Conditions: no list, no name is longer than 2097152.
-/
import Derived.Test.YtkplgggdidhnoaaGreatDoorM17
import Derived.Test.YtkplgggdidhnoaaGreatDoorM16
import Derived.Test.YtkplgggdidhnoaaGreatDoorM14
import Derived.Test.YtkplgggdidhnoaaGreatDoorM15
import Derived.Test.YtkplgggdidhnoaaGreatDoorM11
import Derived.Test.YtkplgggdidhnoaaGreatDoorM03
import Derived.Test.YtkplgggdidhnoaaGreatDoorM20
import Derived.Test.YtkplgggdidhnoaaGreatDoorM12
namespace Go.Proofs.YtkplgggdidhnoaaGreatDoor
open Go.ChangeShapes Go.WideShapes Go.ChangeAt Go.RowKit
set_option linter.unusedVariables false

def PS.new (L : Lay) : PS := ⟨US.new, US.new, St.new, LS.new, List.replicate L.secs.length false, List.replicate L.pts.length Pt.start, 0⟩

/-- A pair that is being made. -/
structure MadeP (m : Nat → Nat) (w : World) (p r k f s : Nat) (x0 x1 : Value) (L : Lay) : Prop where
  mp : m p = 0
  mr : m r = 1
  blk : Blk w p 73 #[x0, x1, .pointer (some ⟨r, 0, none⟩), .pointer (some ⟨k, 0, none⟩), .pointer (some ⟨f, 0, none⟩), .pointer (some ⟨s, 0, none⟩), .int .i64 0]
  relay : RelayAt w r St.new
  link : LinkAt (fun g => m g = 2) w k LS.new
  field : FieldAt (fun g => m g = 3) w f (List.replicate L.secs.length false) (List.replicate L.pts.length Pt.start)
  safe : ∃ rs, LockAt (fun g => m g = 4) w s L rs
theorem MadeP.step {m : Nat → Nat} {w w' : World} {p r k f s : Nat} {x0 x1 : Value} {L : Lay} (h : MadeP m w p r k f s x0 x1 L) (c : Ch Noone w w') (l : Nat) : MadeP (lab m w.heap.size l) w' p r k f s x0 x1 L :=
  ⟨(lab_lt h.blk.lt).trans h.mp, (lab_lt (Blk.lt h.relay)).trans h.mr, c.blk h.blk (fun h => h), c.blk h.relay (fun h => h), tr_link h.link (c.no (i := 99)) (by decide) l, tr_field h.field (c.no (i := 99)) (by decide) l, tr_lock h.safe (c.no (i := 99)) (by decide) l⟩
theorem MadeP.put {m : Nat → Nat} {w w' : World} {p r k f s : Nat} {x0 x1 y0 y1 : Value} {L : Lay} (h : MadeP m w p r k f s x0 x1 L) (c : Ch (fun g => g = p) w w') (hb : Blk w' p 73 #[y0, y1, .pointer (some ⟨r, 0, none⟩), .pointer (some ⟨k, 0, none⟩), .pointer (some ⟨f, 0, none⟩), .pointer (some ⟨s, 0, none⟩), .int .i64 0]) : MadeP m w' p r k f s y0 y1 L := by
  have hp := h.mp
  refine ⟨hp, h.mr, hb, c.blk h.relay (fun e => by have h1 := h.mr; rw [e] at h1; omega), h.link.ch c (fun g hg _ e => by have h1 : m g = 2 := hg; rw [e] at h1; omega), h.field.ch c (fun g hg _ e => by have h1 : m g = 3 := hg; rw [e] at h1; omega), ?_⟩
  obtain ⟨rs, h4⟩ := h.safe
  exact ⟨rs, h4.ch c (fun g hg _ e => by have h1 : m g = 4 := hg; rw [e] at h1; omega)⟩

set_option maxRecDepth 100000 in
set_option maxHeartbeats 8000000 in
theorem pair_new (B : Nat → Prop) (w : World) (v : Value) (L : Lay) (hL : LayAt B w v L) (ok : LayOk L) (hT : Tabs w) :
    Calls Tryz.prog 8 #[v] w fun x w' => ∃ m p a0 a1 r k f s, x = .returned (.tuple #[.pointer (some ⟨p, 0, none⟩), .int .i64 0]) ∧ PairP m w' p a0 a1 r k f s L (PS.new L) ∧ (∀ g, g < w.heap.size → m g = 9) ∧ Ch Noone w w' := by
  have HL := Lib.hid hL
  have HT := Lib.hid hT
  have OK := Lib.hid ok
  clear hT ok
  obtain ⟨q1, q2, q3, q4, rs, rfl, -, -, -, -, -, -⟩ := hL
  have b0 := Blk.new w 26 #[q1, q2, q3, q4]
  have C0 : Ch Noone w (w.alloc (.cells #[q1, q2, q3, q4] 26)) := (Ch.refl _ _).alloc _
  go_enter Tryz.func8, Tryz.ntmps8
  go_wp2_with fail
  generalize hw0 : w.alloc (.cells #[q1, q2, q3, q4] 26) = w0 at *
  clear hw0
  refine (lock_new B _ _ L (HL.out.ch0 C0) OK.out (HT.out.ch0 C0)).mono ?_
  rintro x w1 ⟨s, rfl, hs1, c1⟩
  have HS1 := Lib.hid hs1; clear hs1
  have C1 := C0.trans c1
  have b1 := c1.blk b0 (fun h => h)
  have l0 := b1.cell 0
  have l1 := b1.cell 1
  have l2 := b1.cell 2
  have l3 := b1.cell 3
  simp only [List.getElem?_toArray, List.getElem?_cons_zero, List.getElem?_cons_succ] at l0 l1 l2 l3
  go_wp2_with fail
  clear l0 l1 l2 l3
  refine (field_new B _ _ L (HL.out.ch0 C1) OK.out (HT.out.ch0 C1)).mono ?_
  rintro x w2 ⟨f, rfl, hf2, c2⟩
  have HF2 := Lib.hid hf2; clear hf2
  go_wp2_with fail
  refine (relay_new w2).mono ?_
  rintro x w3 ⟨rfl, hr3, c3⟩
  have HR3 := Lib.hid hr3; clear hr3
  go_wp2_with fail
  refine (link_new w3).mono ?_
  rintro x w4 ⟨rfl, hk4, c4⟩
  have HK4 := Lib.hid hk4; clear hk4
  go_wp2_with fail
  obtain ⟨w5, hw5⟩ : ∃ w5, w5 = w4.alloc (.cells #[.pointer none, .pointer none, .pointer (some ⟨w2.heap.size, 0, none⟩), .pointer (some ⟨w3.heap.size, 0, none⟩), .pointer (some ⟨f, 0, none⟩), .pointer (some ⟨s, 0, none⟩), .int .i64 0] 73) := ⟨_, rfl⟩
  rw [← hw5]
  have c5 : Ch Noone w4 w5 := by rw [hw5]; exact (Ch.refl _ _).alloc _
  have hb5 : Blk w5 w4.heap.size 73 #[.pointer none, .pointer none, .pointer (some ⟨w2.heap.size, 0, none⟩), .pointer (some ⟨w3.heap.size, 0, none⟩), .pointer (some ⟨f, 0, none⟩), .pointer (some ⟨s, 0, none⟩), .int .i64 0] := by rw [hw5]; exact Blk.new _ _ _
  have k1 := c1.size
  have k2 := c2.size
  have k3 := c3.size
  have k4 := c4.size
  obtain ⟨n1, hn1⟩ : ∃ n, n = lab (fun _ => 9) w0.heap.size 4 := ⟨_, rfl⟩
  obtain ⟨n2, hn2⟩ : ∃ n, n = lab n1 w1.heap.size 3 := ⟨_, rfl⟩
  obtain ⟨n3, hn3⟩ : ∃ n, n = lab n2 w2.heap.size 1 := ⟨_, rfl⟩
  obtain ⟨n4, hn4⟩ : ∃ n, n = lab n3 w3.heap.size 2 := ⟨_, rfl⟩
  obtain ⟨n5, hn5⟩ : ∃ n, n = lab n4 w4.heap.size 0 := ⟨_, rfl⟩
  have s1 : ∃ rs, LockAt (fun g => n1 g = 4) w1 s L rs := ⟨_, HS1.out.mono fun g hg _ => by rw [hn1]; exact lab_ge hg⟩
  have s2 : ∃ rs, LockAt (fun g => n2 g = 4) w2 s L rs := by rw [hn2]; exact tr_lock s1 (c2.no (i := 99)) (by decide) 3
  have s3 : ∃ rs, LockAt (fun g => n3 g = 4) w3 s L rs := by rw [hn3]; exact tr_lock s2 (c3.no (i := 99)) (by decide) 1
  have s4 : ∃ rs, LockAt (fun g => n4 g = 4) w4 s L rs := by rw [hn4]; exact tr_lock s3 (c4.no (i := 99)) (by decide) 2
  have s5 : ∃ rs, LockAt (fun g => n5 g = 4) w5 s L rs := by rw [hn5]; exact tr_lock s4 (c5.no (i := 99)) (by decide) 0
  have f2 : FieldAt (fun g => n2 g = 3) w2 f (List.replicate L.secs.length false) (List.replicate L.pts.length Pt.start) := HF2.out.mono fun g hg _ => by rw [hn2]; exact lab_ge hg
  have f3 : FieldAt (fun g => n3 g = 3) w3 f (List.replicate L.secs.length false) (List.replicate L.pts.length Pt.start) := by rw [hn3]; exact tr_field f2 (c3.no (i := 99)) (by decide) 1
  have f4 : FieldAt (fun g => n4 g = 3) w4 f (List.replicate L.secs.length false) (List.replicate L.pts.length Pt.start) := by rw [hn4]; exact tr_field f3 (c4.no (i := 99)) (by decide) 2
  have f5 : FieldAt (fun g => n5 g = 3) w5 f (List.replicate L.secs.length false) (List.replicate L.pts.length Pt.start) := by rw [hn5]; exact tr_field f4 (c5.no (i := 99)) (by decide) 0
  have g4 : LinkAt (fun g => n4 g = 2) w4 w3.heap.size LS.new := HK4.out.mono fun g hg _ => by rw [hn4]; exact lab_ge hg
  have g5 : LinkAt (fun g => n5 g = 2) w5 w3.heap.size LS.new := by rw [hn5]; exact tr_link g4 (c5.no (i := 99)) (by decide) 0
  have r3 := Blk.lt HR3.out
  have r4 := c4.blk HR3.out (fun h => h)
  have r5 := c5.blk r4 (fun h => h)
  have mr5 : n5 w2.heap.size = 1 := by rw [hn5, lab_lt (Blk.lt r4), hn4, lab_lt r3, hn3]; exact lab_ge (Nat.le_refl _)
  have mp5 : n5 w4.heap.size = 0 := by rw [hn5]; exact lab_ge (Nat.le_refl _)
  have low5 : ∀ g, g < w0.heap.size → n5 g = 9 := fun g hg => by rw [hn5, lab_lt (by omega), hn4, lab_lt (by omega), hn3, lab_lt (by omega), hn2, lab_lt (by omega), hn1, lab_lt hg]
  have HM5 : Hid (MadeP n5 w5 w4.heap.size w2.heap.size w3.heap.size f s (.pointer none) (.pointer none) L) := ⟨mp5, mr5, hb5, r5, g5, f5, s5⟩
  have hbx5 : Blk w5 w.heap.size 26 #[q1, q2, q3, q4] := c5.blk (c4.blk (c3.blk (c2.blk b1 (fun h => h)) (fun h => h)) (fun h => h)) (fun h => h)
  have hc5 : Ch Noone w w5 := (((C1.trans c2).trans c3).trans c4).trans c5
  have hz5 : w0.heap.size ≤ w5.heap.size := (((c1.trans c2).trans c3).trans c4).trans c5 |>.size
  obtain ⟨p, hp⟩ : ∃ p, p = w4.heap.size := ⟨_, rfl⟩
  obtain ⟨r, hr⟩ : ∃ p, p = w2.heap.size := ⟨_, rfl⟩
  obtain ⟨k, hk⟩ : ∃ p, p = w3.heap.size := ⟨_, rfl⟩
  rw [← hp, ← hr, ← hk] at HM5
  rw [← hp]
  have HC0z := C0.size
  have hwlt : w.heap.size < w0.heap.size := b0.lt
  clear s1 s2 s3 s4 s5 f2 f3 f4 f5 g4 g5 r3 r4 r5 mr5 mp5 hb5 hw5 hn1 hn2 hn3 hn4 hn5 k1 k2 k3 k4 b1 b0 HS1 HF2 HR3 HK4 c1 c2 c3 c4 c5 C1 hp hr hk
  go_loopw [29] (fun i wr => ∃ (mq : Nat → Nat) (x0 x1 : Value), MadeP mq wr p r k f s x0 x1 L ∧ (∀ g, g < w0.heap.size → mq g = 9) ∧ Ch Noone w wr ∧ Blk wr w.heap.size 26 #[q1, q2, q3, q4] ∧ w0.heap.size ≤ wr.heap.size ∧
    ((i = .int .i64 0 ∧ x0 = .pointer none ∧ x1 = .pointer none) ∨ (i = .int .i64 1 ∧ ∃ a0, x0 = .pointer (some ⟨a0, 0, none⟩) ∧ x1 = .pointer none ∧ ∃ rs, UnitAt (fun g => mq g = 5) wr a0 L US.new rs) ∨
     (i = .int .i64 2 ∧ ∃ a0 a1, x0 = .pointer (some ⟨a0, 0, none⟩) ∧ x1 = .pointer (some ⟨a1, 0, none⟩) ∧ (∃ rs, UnitAt (fun g => mq g = 5) wr a0 L US.new rs) ∧ ∃ rs, UnitAt (fun g => mq g = 6) wr a1 L US.new rs))) (fun i _ => (2 - intOf i).toNat)
  case atStart => exact ⟨n5, _, _, HM5.out, low5, hc5, hbx5, hz5, .inl ⟨rfl, rfl, rfl⟩⟩
  case round =>
    clear HM5 hbx5 hc5 hz5 low5
    obtain ⟨mq, x0, x1, hm, hlo, hc, hbx, hz, hi⟩ := hrel
    have HM := Lib.hid hm
    have HLow := Lib.hid hlo
    have HC := Lib.hid hc
    have HBx := Lib.hid hbx
    have HZ := Lib.hid hz
    have HPx : Hid (w.heap.size ≠ p) := fun e => by
      have h1 := hm.mp
      have h2 := hlo _ hwlt
      rw [e, h1] at h2
      omega
    obtain ⟨l0, l1, l2, l3⟩ := Blk.cells4 hbx
    clear hm hlo hc hbx hz l0 l1 l2 l3
    rcases hi with ⟨rfl, rfl, rfl⟩ | ⟨rfl, a0, rfl, rfl, hu0⟩ | ⟨rfl, a0, a1, rfl, rfl, hu0, hu1⟩
    · have HUN := Lib.hid (unit_new B wr.drew _ L (HL.out.ch0 HC.out.drew) OK.out (HT.out.ch0 HC.out.drew))
      go_wp2_with fail
      go_region_held3 (fun W => W.cell? ⟨w.heap.size, 0, none⟩ = some q1 ∧ W.cell? ⟨w.heap.size, 0 + 1, none⟩ = some q2 ∧ W.cell? ⟨w.heap.size, 0 + 2, none⟩ = some q3 ∧ W.cell? ⟨w.heap.size, 0 + 3, none⟩ = some q4) (first | exact Blk.cells4 HBx.out.drew | exact Blk.cells4 (c2.blk HBx.out.drew (fun h => h)) | exact Blk.cells4 ((c2.blk HBx.out.drew (fun h => h)).other HPx.out _ _))
        (first | (go_at_call 25; refine HUN.out.mono ?_; rintro x w6 ⟨u, rfl, hu6, c2⟩; have hp6 := c2.blk HM.out.blk.drew (fun h => h); have z0 : w6.cell? ⟨p, 0, none⟩ = some (.pointer none) := hp6.cell 0; have zf := hp6.free 0))
      have c2 : Ch Noone wr w6 := (Ch.refl _ _).drew.trans c2
      have HU6 := Lib.hid hu6
      have HM6 := Lib.hid (HM.out.step c2 5)
      have hmp := HM6.out.mp
      have cT : Ch (fun g => g = p) w6 (w6.setCell ⟨p, 0, none⟩ (.pointer (some ⟨u, 0, none⟩))) := (Ch.refl _ _).set1 _ _
      have HUn : Hid (∃ rs, UnitAt (fun g => lab mq wr.heap.size 5 g = 5) (w6.setCell ⟨p, 0, none⟩ (.pointer (some ⟨u, 0, none⟩))) u L US.new rs) := ⟨_, (HU6.out.mono fun g hg _ => (lab_ge hg : lab mq wr.heap.size 5 g = 5)).ch cT (fun g hg _ e => by have h1 : lab mq wr.heap.size 5 g = 5 := hg; rw [e, hmp] at h1; omega)⟩
      have HM7 := Lib.hid (HM6.out.put (y0 := (.pointer (some ⟨u, 0, none⟩))) (y1 := (.pointer none)) cT (by have := HM6.out.blk.set 0 (.pointer (some ⟨u, 0, none⟩)); simpa using this))
      have hpw := HM.out.blk.lt
      have HCw := HC.out
      have hlow : ∀ g, g < w0.heap.size → lab mq wr.heap.size 5 g = 9 := fun g hg => (lab_lt (Nat.lt_of_lt_of_le hg HZ.out)).trans (HLow.out g hg)
      have hbx : Blk (w6.setCell ⟨p, 0, none⟩ (.pointer (some ⟨u, 0, none⟩))) w.heap.size 26 #[q1, q2, q3, q4] := (c2.blk HBx.out (fun h => h)).other HPx.out _ _
      have hcc : Ch Noone w (w6.setCell ⟨p, 0, none⟩ (.pointer (some ⟨u, 0, none⟩))) := (HCw.trans c2).then cT fun g hg e => by
        have h1 := HLow.out g (Nat.lt_of_lt_of_le hg C0.size)
        rw [e, HM.out.mp] at h1
        omega
      go_wp2_with fail
      go_roundw
      case rel => exact ⟨_, _, _, HM7.out, hlow, hcc, hbx, Nat.le_trans HZ.out (Nat.le_trans c2.size cT.size), .inr (.inl ⟨rfl, u, rfl, rfl, HUn.out⟩)⟩
      case measure => simp [intOf]

    · have HU0 := Lib.hid hu0
      clear hu0
      have HUN := Lib.hid (unit_new B wr.drew _ L (HL.out.ch0 HC.out.drew) OK.out (HT.out.ch0 HC.out.drew))
      go_wp2_with fail
      go_region_held3 (fun W => W.cell? ⟨w.heap.size, 0, none⟩ = some q1 ∧ W.cell? ⟨w.heap.size, 0 + 1, none⟩ = some q2 ∧ W.cell? ⟨w.heap.size, 0 + 2, none⟩ = some q3 ∧ W.cell? ⟨w.heap.size, 0 + 3, none⟩ = some q4) (first | exact Blk.cells4 HBx.out.drew | exact Blk.cells4 (c2.blk HBx.out.drew (fun h => h)) | exact Blk.cells4 ((c2.blk HBx.out.drew (fun h => h)).other HPx.out _ _))
        (first | (go_at_call 25; refine HUN.out.mono ?_; rintro x w6 ⟨u, rfl, hu6, c2⟩; have hp6 := c2.blk HM.out.blk.drew (fun h => h); have z1 : w6.cell? ⟨p, 1, none⟩ = some (.pointer none) := hp6.cell 1; have zf := hp6.free 1))
      have c2 : Ch Noone wr w6 := (Ch.refl _ _).drew.trans c2
      have HU6 := Lib.hid hu6
      have HM6 := Lib.hid (HM.out.step c2 6)
      have hmp := HM6.out.mp
      have cT : Ch (fun g => g = p) w6 (w6.setCell ⟨p, 1, none⟩ (.pointer (some ⟨u, 0, none⟩))) := (Ch.refl _ _).set1 _ _
      have HU0b := Lib.hid (by obtain ⟨rs0, h0⟩ := tr_unit HU0.out (c2.no (i := 99)) (by decide) 6; exact (⟨rs0, h0.ch cT (fun g hg _ e => by have h1 : lab mq wr.heap.size 6 g = 5 := hg; rw [e, hmp] at h1; omega)⟩ : ∃ rs, UnitAt (fun g => lab mq wr.heap.size 6 g = 5) _ a0 L US.new rs))
      have HUn : Hid (∃ rs, UnitAt (fun g => lab mq wr.heap.size 6 g = 6) (w6.setCell ⟨p, 1, none⟩ (.pointer (some ⟨u, 0, none⟩))) u L US.new rs) := ⟨_, (HU6.out.mono fun g hg _ => (lab_ge hg : lab mq wr.heap.size 6 g = 6)).ch cT (fun g hg _ e => by have h1 : lab mq wr.heap.size 6 g = 6 := hg; rw [e, hmp] at h1; omega)⟩
      have HM7 := Lib.hid (HM6.out.put (y0 := (.pointer (some ⟨a0, 0, none⟩))) (y1 := (.pointer (some ⟨u, 0, none⟩))) cT (by have := HM6.out.blk.set 1 (.pointer (some ⟨u, 0, none⟩)); simpa using this))
      have hpw := HM.out.blk.lt
      have HCw := HC.out
      have hlow : ∀ g, g < w0.heap.size → lab mq wr.heap.size 6 g = 9 := fun g hg => (lab_lt (Nat.lt_of_lt_of_le hg HZ.out)).trans (HLow.out g hg)
      have hbx : Blk (w6.setCell ⟨p, 1, none⟩ (.pointer (some ⟨u, 0, none⟩))) w.heap.size 26 #[q1, q2, q3, q4] := (c2.blk HBx.out (fun h => h)).other HPx.out _ _
      have hcc : Ch Noone w (w6.setCell ⟨p, 1, none⟩ (.pointer (some ⟨u, 0, none⟩))) := (HCw.trans c2).then cT fun g hg e => by
        have h1 := HLow.out g (Nat.lt_of_lt_of_le hg C0.size)
        rw [e, HM.out.mp] at h1
        omega
      go_wp2_with fail
      go_roundw
      case rel => exact ⟨_, _, _, HM7.out, hlow, hcc, hbx, Nat.le_trans HZ.out (Nat.le_trans c2.size cT.size), .inr (.inr ⟨rfl, a0, u, rfl, rfl, HU0b.out, HUn.out⟩)⟩
      case measure => simp [intOf]

    · go_wp2_with fail
      go_ret2
      have h := HM.out
      exact ⟨mq, p, a0, a1, r, k, f, s, rfl, ⟨h.mp, h.mr, h.blk, h.relay, h.link, h.field, h.safe, hu0, hu1, List.length_replicate, List.length_replicate, fun q hq => by
        have := List.eq_of_mem_replicate hq
        subst this
        exact ⟨by decide, by decide⟩⟩, fun g hg => HLow.out g (Nat.lt_of_lt_of_le hg HC0z), HC.out⟩
end Go.Proofs.YtkplgggdidhnoaaGreatDoor

namespace Go.Proofs.YtkplgggdidhnoaaGreatDoor
open Go.ChangeShapes Go.WideShapes Go.ChangeAt Go.RowKit
set_option linter.unusedVariables false

theorem info_ev : (Tryz.prog.info? 52).map (fun i => (i.zero, i.size, i.bytes)) = some (some (.agg #[.int .i64 0, .int .i64 0, .int .i64 0, .int .i64 0, .int .i64 0]), 5, 40) := by kernel_rfl
theorem info_evs : (Tryz.prog.info? 38).map (fun i => (i.zero, i.size, i.bytes)) = some (some (.slice none 0 0), 1, 24) := by kernel_rfl
theorem one_int5 (a b c d e : Int) : ∀ u ∈ [Value.int .i64 a, .int .i64 b, .int .i64 c, .int .i64 d, .int .i64 e], u.oneCell' = true := by intro u hu; simp at hu; rcases hu with rfl | rfl | rfl | rfl | rfl <;> rfl
theorem one_slice (a : Option Addr) (n c : Nat) : ∀ u ∈ [Value.slice a n c], u.oneCell' = true := by intro u hu; simp at hu; subst hu; rfl

/-- An append to a row of another type leaves a row alone. -/
theorem Own.apart {O O' : Nat → Prop} {w w' : World} {e e' C C' n n' : Nat} {v v' : Value} {xs xs' : List Value} (h : Own O w e C v n xs) (h' : Own O' w e' C' v' n' xs') (ne : e ≠ e') (g : w.grownBy w' v'.ownBlock) : Own O w' e C v n xs := by
  obtain ⟨h1, h2⟩ := h
  refine ⟨h1, ?_⟩
  rcases h2 with h2 | ⟨b, cap, cur, hv, hb, hh, r⟩
  · exact .inl h2
  · refine .inr ⟨b, cap, cur, hv, hb, (g.block b (lt_of_heap hh) ?_).trans hh, r⟩
    rcases h'.2 with ⟨rfl, _⟩ | ⟨b', cap', cur', rfl, _, hh', _⟩
    · simp [Value.ownBlock]
    · simp only [Value.ownBlock]
      intro e2
      simp only [Option.some.injEq] at e2
      subst e2
      rw [hh'] at hh
      simp only [Option.some.injEq, Obj.cells.injEq] at hh
      exact ne hh.2.1.symm

def CalmEv (e : Ev) : Prop := e.kind = 7 ∨ e.kind = 8 ∨ e.kind = 10
def CalmAt (O : Nat → Prop) (w : World) (x : List Ev × Value) : Prop := Own O w 52 5 x.2 x.1.length (x.1.flatMap fEv) ∧ x.1.length ≤ 8 ∧ ∀ e ∈ x.1, CalmEv e

set_option maxRecDepth 100000 in
set_option maxHeartbeats 8000000 in
theorem calm_any (B : Nat → Prop) (w : World) (v : Value) (es : List (List Ev × Value)) (h : EvsAt B w v es) :
    Calls Tryz.prog 19 #[v] w fun r w' => ∃ (v' : Value) (xs : List (List Ev × Value)), r = .returned v' ∧ xs.length ≤ 90 ∧ Sl (New w.heap.size) w' v' xs.length (xs.flatMap fEvs) ∧ (∀ x ∈ xs, CalmAt (New w.heap.size) w' x) ∧ Ch Noone w w' := by
  have HE := Lib.hid h.1
  have HI := Lib.hid h.2
  obtain ⟨a1, c1, rfl, -, -, -, -⟩ := h.1
  clear h
  obtain ⟨i0, hi0, hz0, hz1, hz2⟩ := info_parts info_ev
  obtain ⟨j0, hj0, hy0, hy1, hy2⟩ := info_parts info_evs
  go_enter Tryz.func19, Tryz.ntmps19
  go_wp2_with fail
  go_loopw [3, 4] (fun q i wr => ∃ (k : Nat) (xs : List (List Ev × Value)), k ≤ es.length ∧ k ≤ 90 ∧ i = .int .i64 k ∧ xs.length = k ∧ Ch Noone w wr ∧ Own (New w.heap.size) wr 38 1 q k (xs.flatMap fEvs) ∧ (∀ x ∈ xs, CalmAt (New w.heap.size) wr x)) (fun _ i _ => (90 - intOf i).toNat)
  case atStart => exact ⟨0, [], by omega, by omega, rfl, rfl, Ch.refl _ _, ⟨rfl, .inl ⟨rfl, rfl⟩⟩, by simp⟩
  case round =>
    obtain ⟨k, xs, hk, hk2, rfl, hxl, hch, hown, hxs⟩ := hrel
    have HXl := Lib.hid hxl
    have HOw := Lib.hid hown
    have HXs := Lib.hid hxs
    clear hxl hown hxs
    by_cases hgo : k < es.length ∧ k < 90
    · obtain ⟨hkl, hk90⟩ := hgo
      obtain ⟨b, off, rfl, -, hbw, hat⟩ := HE.out.at (f := fEvs) (C := 1) (fun _ => rfl) (by omega) hkl
      have y0 : w.cell? ⟨b, off + k, none⟩ = some es[k].2 := by have := hat 0 (by omega); rw [Nat.mul_one] at this; exact this
      have hin := HI.out es[k] (List.getElem_mem hkl)
      clear hat
      generalize es[k] = y at *
      obtain ⟨ev, yv⟩ := y
      dsimp only at *
      have HIn := Lib.hid hin
      obtain ⟨a2, c2, rfl, -, -, -, -⟩ := hin
      have Y0 := Lib.hid y0
      clear y0
      have y0' : wr.cell? ⟨b, off + k, none⟩ = some (.slice a2 ev.length c2) := (hch.rd hbw _).trans Y0.out
      have hsz := hch.size
      have hk0 : (0 : Int) ≤ k := by omega
      have hk1 : (k : Int) < es.length := by omega
      have hk9 : (k : Int) < 90 := by omega
      go_wp2_with fail
      clear y0'
      obtain ⟨base, hbase⟩ : ∃ n, n = wr.heap.size := ⟨_, rfl⟩
      have HOb : Hid (Own (fun g => New w.heap.size g ∧ g < base) wr 38 1 u3 k (xs.flatMap fEvs)) := HOw.out.mono fun g hg hl => ⟨hg, by omega⟩
      have HXb : Hid (∀ x ∈ xs, CalmAt (fun g => New w.heap.size g ∧ g < base) wr x) := fun x hx => ⟨(HXs.out x hx).1.mono fun g hg hl => ⟨hg, by omega⟩, (HXs.out x hx).2⟩
      have hbz : w.heap.size ≤ base := by omega
      have hbz2 : base ≤ wr.heap.size := by omega
      clear hbase
      go_loopw [5, 6] (fun q i wq => ∃ (j n : Nat) (ys : List Ev), j ≤ ev.length ∧ j ≤ 8 ∧ i = .int .i64 j ∧ n ≤ j ∧ ys.length = n ∧ Ch Noone w wq ∧ base ≤ wq.heap.size ∧ Own (New base) wq 52 5 q n (ys.flatMap fEv) ∧ (∀ e ∈ ys, CalmEv e) ∧ Own (fun g => New w.heap.size g ∧ g < base) wq 38 1 u3 k (xs.flatMap fEvs) ∧ (∀ x ∈ xs, CalmAt (fun g => New w.heap.size g ∧ g < base) wq x)) (fun _ i _ => (8 - intOf i).toNat)
      case atStart => exact ⟨0, 0, [], by omega, by omega, rfl, by omega, rfl, hch, hbz2, ⟨rfl, .inl ⟨rfl, rfl⟩⟩, by simp, HOb.out, HXb.out⟩
      case round =>
        clear HOb HXb hch hbz2 HOw HXs hsz
        obtain ⟨j, n, ys, hj, hj8, rfl, hnj, hyl, hch, hbz2, hown, hys, hob, hxb⟩ := hrel
        have HYl := Lib.hid hyl
        have HYs := Lib.hid hys
        have HOn := Lib.hid hown
        have HOb := Lib.hid hob
        have HXb := Lib.hid hxb
        have y0' : wr.cell? ⟨b, off + k, none⟩ = some (.slice a2 ev.length c2) := (hch.rd hbw _).trans Y0.out
        clear hyl hys hown hob hxb
        by_cases hgj : j < ev.length ∧ j < 8
        · obtain ⟨hjl, hj88⟩ := hgj
          obtain ⟨b2, off2, rfl, -, hbw2, hat⟩ := HIn.out.at (f := fEv) (C := 5) (fun _ => rfl) (by omega) hjl
          have z0 : wr.cell? ⟨b2, off2 + j * 5, none⟩ = some (.int .i64 ev[j].kind) := (hch.rd hbw2 _).trans (hat 0 (by omega))
          have z1 : wr.cell? ⟨b2, off2 + j * 5 + 1, none⟩ = some (.int .i64 ev[j].unit) := (hch.rd hbw2 _).trans (hat 1 (by omega))
          have z2 : wr.cell? ⟨b2, off2 + j * 5 + 2, none⟩ = some (.int .i64 ev[j].n) := (hch.rd hbw2 _).trans (hat 2 (by omega))
          have z3 : wr.cell? ⟨b2, off2 + j * 5 + 3, none⟩ = some (.int .i64 ev[j].ck) := (hch.rd hbw2 _).trans (hat 3 (by omega))
          have z4 : wr.cell? ⟨b2, off2 + j * 5 + 4, none⟩ = some (.int .i64 ev[j].cr) := (hch.rd hbw2 _).trans (hat 4 (by omega))
          have hj0' : (0 : Int) ≤ j := by omega
          have hj1' : (j : Int) < ev.length := by omega
          have hj2' : (j : Int) < 8 := by omega
          clear hat
          generalize ev[j] = e at *
          obtain ⟨ek, eu, en, ec, er⟩ := e
          dsimp only at *
          by_cases hc : ek = 7 ∨ ek = 8 ∨ ek = 10
          · have HC : Hid (CalmEv ⟨ek, eu, en, ec, er⟩) := hc
            have hc3 : (ek == 7) = true ∨ ((ek == 7) = false ∧ (ek == 8) = true) ∨ ((ek == 7) = false ∧ (ek == 8) = false ∧ (ek == 10) = true) := by
              rcases hc with h | h | h <;> subst h <;> decide
            clear hc
            rcases hc3 with b7 | ⟨b7, b8⟩ | ⟨b7, b8, b10⟩
            all_goals
              go_wp2_with (at_builtin; refine And.right (a := True) ?_)
              refine ⟨trivial, ?_⟩
              refine wpList_append_own _ rfl _ _ 38 rfl base 52 i0 _ 5 40 Tryz.underlying38 hi0 hz0 hz1 hz2 rfl (by decide) _ n (ys.flatMap fEv) (by exact rfl) (by exact (HOn.out.ch ((Ch.refl Noone wr).alloc _) (fun _ _ _ h => h)).row) _ 1 1 [.int .i64 ek, .int .i64 eu, .int .i64 en, .int .i64 ec, .int .i64 er] (by exact rfl) rfl (by exact fresh_at _ _ (by simp) _ [.int .i64 ek, .int .i64 eu, .int .i64 en, .int .i64 ec, .int .i64 er]) (one_int5 _ _ _ _ _) (by unfold maxLen; omega) (by omega) (by simp; omega) ?_
              intro v' w2 hown hgrow _
              have cc := Ch.own HOn.out hgrow
              have HO2 := Lib.hid (Own.of hown)
              have CW : Hid (Ch (fun g => base ≤ g) wr w2) := ((Ch.refl (fun g => base ≤ g) wr).alloc _).then cc fun i _ h => h.1
              clear hown hgrow cc
              go_wp2_with fail
              go_roundw
              case rel =>
                have cw := CW.out
                refine ⟨j + 1, n + 1, ys ++ [⟨ek, eu, en, ec, er⟩], by omega, by omega, by go_num, by omega, by simp [HYl.out], hch.then cw (fun i hi h => by omega), Nat.le_trans hbz2 cw.size, ?_, ?_, HOb.out.ch cw (fun g hg _ h => by have := hg.2; omega), fun x hx => ⟨(HXb.out x hx).1.ch cw (fun g hg _ h => by have := hg.2; omega), (HXb.out x hx).2⟩⟩
                · have h := HO2.out
                  rw [List.flatMap_append]
                  simpa [fEv] using h
                · intro e he
                  rcases List.mem_append.1 he with he | he
                  · exact HYs.out e he
                  · simp at he; subst he; exact HC.out
              case measure => simp [intOf]; omega
          · have n7 : (ek == 7) = false := by simpa using fun e => hc (.inl e)
            have n8 : (ek == 8) = false := by simpa using fun e => hc (.inr (.inl e))
            have n10 : (ek == 10) = false := by simpa using fun e => hc (.inr (.inr e))
            clear hc
            go_wp2_with fail
            go_roundw
            case rel => exact ⟨j + 1, n, ys, by omega, by omega, by go_num, by omega, HYl.out, hch, hbz2, HOn.out, HYs.out, HOb.out, HXb.out⟩
            case measure => simp [intOf]; omega
        · have hex : (ev.length : Int) ≤ j ∨ ((j : Int) < ev.length ∧ 8 ≤ (j : Int)) := by omega
          clear hgj
          have hn8 : n ≤ 8 := by omega
          obtain ⟨a', c', rfl, -, -, -, -⟩ := HOn.out.sl
          rcases hex with hex | ⟨hex, hex2⟩
          all_goals
            go_wp2_with (at_builtin; refine And.right (a := True) ?_)
            refine ⟨trivial, ?_⟩
            refine wpList_append_own _ rfl _ _ 27 rfl w.heap.size 38 j0 _ 1 24 Tryz.underlying27 hj0 hy0 hy1 hy2 rfl (by decide) _ k (xs.flatMap fEvs) (by exact rfl) (by exact ((HOb.out.mono (O' := New w.heap.size) fun g hg _ => hg.1).ch ((Ch.refl Noone wr).alloc _) (fun _ _ _ h => h)).row) _ 1 1 [.slice a' n c'] (by exact rfl) rfl (by exact fresh_at _ _ (by simp) _ [.slice a' n c']) (one_slice _ _ _) (by unfold maxLen; omega) (by omega) (by simp; omega) ?_
            intro v' w2 hown hgrow _
            have cal : Ch Noone wr _ := (Ch.refl Noone wr).alloc (.cells [.slice a' n c'].toArray 38)
            have hob := (HOb.out.mono (O' := New w.heap.size) fun g hg _ => hg.1).ch cal (fun _ _ _ h => h)
            have cc := Ch.own hob hgrow
            have HO2 := Lib.hid (Own.of hown)
            have CW : Hid (Ch Noone w w2) := (hch.trans cal).then cc fun i hi h => absurd h.1 (by omega)
            have HXn : Hid (∀ x ∈ xs ++ [(ys, .slice a' n c')], CalmAt (New w.heap.size) w2 x) := fun x hx => by
              rcases List.mem_append.1 hx with hx | hx
              · exact ⟨(((HXb.out x hx).1.mono fun g hg _ => hg.1).ch cal (fun _ _ _ h => h)).apart hob (by decide) hgrow, (HXb.out x hx).2⟩
              · simp only [List.mem_cons, List.not_mem_nil, or_false] at hx
                subst hx
                refine ⟨?_, by dsimp only; rw [HYl.out]; exact hn8, HYs.out⟩
                dsimp only
                rw [HYl.out]
                exact ((HOn.out.mono (O' := New w.heap.size) fun g hg _ => Nat.le_trans hbz hg).ch cal (fun _ _ _ h => h)).apart hob (by decide) hgrow
            clear hown hgrow cc cal hob
            go_wp2_with fail
            go_roundw
            case rel =>
              refine ⟨k + 1, xs ++ [(ys, .slice a' n c')], by omega, by omega, by go_num, by simp [HXl.out], CW.out, ?_, HXn.out⟩
              have h := HO2.out
              rw [List.flatMap_append]
              simpa [fEvs] using h
            case measure => simp [intOf]; omega
    · have hex : (es.length : Int) ≤ k ∨ ((k : Int) < es.length ∧ 90 ≤ (k : Int)) := by omega
      clear hgo
      rcases hex with hex | ⟨hex, hex2⟩
      all_goals
        go_wp2_with fail
        go_ret
        exact ⟨_, xs, rfl, by rw [HXl.out]; exact hk2, by rw [HXl.out]; exact HOw.out.sl, HXs.out, hch⟩
end Go.Proofs.YtkplgggdidhnoaaGreatDoor

namespace Go.Proofs.YtkplgggdidhnoaaGreatDoor
open Go.ChangeShapes Go.WideShapes Go.ChangeAt Go.RowKit
set_option linter.unusedVariables false

def one : Lay := ⟨[⟨#[97]⟩], [], [⟨#[115]⟩, ⟨#[116]⟩], [⟨⟨#[114]⟩, 0, 1, [0], [], []⟩]⟩

theorem one_ok : LayOk one := by
  have nm : ∀ s : ByteArray, s = ⟨#[97]⟩ ∨ s = ⟨#[115]⟩ ∨ s = ⟨#[116]⟩ ∨ s = ⟨#[114]⟩ → NameOk s ∧ (s.toList == [115, 101, 116]) = false ∧ (s.toList == [102, 108, 97, 110, 107]) = false := by
    rintro s (rfl | rfl | rfl | rfl)
    all_goals exact ⟨⟨by kernel_rfl, by decide +kernel, by decide +kernel⟩, by kernel_rfl, by kernel_rfl⟩
  refine ⟨by decide, by decide, by decide, by decide, by decide, by decide, ?_, ?_, ?_, ?_, ?_, ?_⟩
  · intro p hp; simp [one] at hp
  · intro r hr
    simp only [one, List.mem_cons, List.not_mem_nil, or_false] at hr
    subst hr
    refine ⟨by decide, by decide, by decide, by decide, by decide, ⟨?_, ?_, by decide, by decide⟩, ⟨by simp, by simp⟩, ⟨by simp, by simp⟩, by decide⟩
    · intro x hx
      simp only [List.mem_cons, List.not_mem_nil, or_false] at hx
      subst hx
      exact ⟨by decide, by decide⟩
    · intro i j hi hj hij
      simp at hi hj
      omega
  · refine ⟨fun s hs => nm s ?_, fun i j hi hj hij => ?_⟩
    · simp only [one, List.mem_cons, List.not_mem_nil, or_false] at hs; exact .inl hs
    · simp [one] at hi hj; omega
  · refine ⟨fun s hs => nm s ?_, fun i j hi hj hij => ?_⟩
    · simp only [one, List.mem_cons, List.not_mem_nil, or_false] at hs
      rcases hs with h | h
      · exact .inr (.inl h)
      · exact .inr (.inr (.inl h))
    · have h1 : i = 0 := by simp [one] at hi hj; omega
      have h2 : j = 1 := by simp [one] at hi hj; omega
      subst h1 h2
      show ((⟨#[116]⟩ : ByteArray).toList == (⟨#[115]⟩ : ByteArray).toList) = false
      kernel_rfl
  · refine ⟨fun s hs => ?_, fun i j hi hj hij => ?_⟩
    · simp [one] at hs
    · simp [one] at hi
  · refine ⟨fun s hs => nm s ?_, fun i j hi hj hij => ?_⟩
    · simp [one] at hs; exact .inr (.inr (.inr hs))
    · simp [one] at hi hj; omega

set_option maxHeartbeats 2000000 in
theorem one_lay (w : World) : Calls Tryz.prog 38 #[] w fun r w' => ∃ v, r = .returned v ∧ LayAt (New w.heap.size) w' v one ∧ Ch Noone w w' := by
  go_enter Tryz.func38, Tryz.ntmps38
  go_wp2_with fail
  (try simp only [Exit.inBlock, Exit.then])
  generalize hW : ((((w.alloc (.cells #[.slice (some ⟨w.heap.size + 1, 0, none⟩) 1 1, .slice none 0 0, .slice (some ⟨w.heap.size + 1 + 1, 0, none⟩) 2 2, .slice (some ⟨w.heap.size + 1 + 1 + 1 + 1, 0, none⟩) 1 1] 26)).alloc
    (.cells #[.string ⟨#[97]⟩] 9)).alloc (.cells #[.string ⟨#[115]⟩, .string ⟨#[116]⟩] 9)).alloc (.cells #[.int .i64 0] 3)).alloc (.cells #[.string ⟨#[114]⟩, .int .i64 0, .int .i64 1, .slice (some ⟨w.heap.size + 1 + 1 + 1, 0, none⟩) 1 1, .slice none 0 0, .slice none 0 0] 54) = W
  have hB0 : Blk W w.heap.size 26 #[.slice (some ⟨w.heap.size + 1, 0, none⟩) 1 1, .slice none 0 0, .slice (some ⟨w.heap.size + 1 + 1, 0, none⟩) 2 2, .slice (some ⟨w.heap.size + 1 + 1 + 1 + 1, 0, none⟩) 1 1] := by
    rw [← hW]; exact ((((Blk.new _ _ _).alloc _).alloc _).alloc _).alloc _
  have hB1 : Blk W (w.heap.size + 1) 9 #[.string ⟨#[97]⟩] := by rw [← hW]; exact (((Blk.newk _ _ (by simp) _ _).alloc _).alloc _).alloc _
  have hB2 : Blk W (w.heap.size + 1 + 1) 9 #[.string ⟨#[115]⟩, .string ⟨#[116]⟩] := by rw [← hW]; exact ((Blk.newk _ _ (by simp) _ _).alloc _).alloc _
  have hB3 : Blk W (w.heap.size + 1 + 1 + 1) 3 #[.int .i64 0] := by rw [← hW]; exact (Blk.newk _ _ (by simp) _ _).alloc _
  have hB4 : Blk W (w.heap.size + 1 + 1 + 1 + 1) 54 #[.string ⟨#[114]⟩, .int .i64 0, .int .i64 1, .slice (some ⟨w.heap.size + 1 + 1 + 1, 0, none⟩) 1 1, .slice none 0 0, .slice none 0 0] := by rw [← hW]; exact Blk.newk _ _ (by simp) _ _
  have cW : Ch Noone w W := by rw [← hW]; exact (((((Ch.refl _ _).alloc _).alloc _).alloc _).alloc _).alloc _
  clear hW
  refine bodyPost_ret (results_cell_row (P := Tryz.prog) rfl _ _ w.heap.size _ _ _ _ rfl hB0 Tryz.underlying26 rfl (by kernel_rfl)) rfl ?_
  have sl1 : ∀ (b : Nat) (T : TypeId) (n : Nat) (vs : List Value), w.heap.size ≤ b → n ≤ 2 → Blk W b T vs.toArray → Sl (New w.heap.size) W (.slice (some ⟨b, 0, none⟩) n n) n vs := fun b T n vs hb hn h =>
    ⟨_, _, rfl, Nat.le_refl _, by omega, (fun h => by cases h), fun _ => ⟨b, 0, rfl, hb, h.lt, fun i hi => by rw [Nat.zero_add, h.cell i]; simp⟩⟩
  refine ⟨_, rfl, ⟨_, _, _, _, [(⟨⟨#[114]⟩, 0, 1, [0], [], []⟩, .slice (some ⟨w.heap.size + 1 + 1 + 1, 0, none⟩) 1 1, .slice none 0 0, .slice none 0 0)], rfl, ?_, ?_, ?_, rfl, ?_, ?_⟩, cW⟩
  · exact sl1 _ _ 1 _ (by omega) (by omega) hB1
  · exact Sl.nil _ _
  · exact sl1 _ _ 2 _ (by omega) (by omega) hB2
  · exact sl1 _ _ 1 _ (by omega) (by omega) hB4
  · intro x hx
    simp only [List.mem_cons, List.not_mem_nil, or_false] at hx
    subst hx
    exact ⟨sl1 _ _ 1 _ (by omega) (by omega) hB3, Sl.nil _ _, Sl.nil _ _⟩

theorem fold_nil {R : Ev → PS → PS → Prop} {a b : PS} (h : PS.Fold R [] a b) : b = a := h
theorem new_upto {L : Lay} {ps4 : PS} (h : PS.Upto [] (PS.new L) ps4) : ps4 = (PS.new L).next.ticked [] := by
  obtain ⟨ps2, h1, h2⟩ := h
  rw [fold_nil h2, fold_nil h1]
theorem new_asked {L : Lay} {ps5 : PS} (h : PS.Asked [] ((PS.new L).next.ticked []) ps5) : ps5.u0 = ⟨4, 1, 0, 10, 1, 6, true, none⟩ ∧ ps5.u1 = ⟨2, 1, 0, 0, 0, 0, false, none⟩ ∧ ps5.re.con = -1 := by
  have hd : ((PS.new L).next.ticked []).now = 1 := rfl
  unfold PS.Asked at h
  rw [hd, if_pos (by decide)] at h
  obtain ⟨u0', re1, u1', re2, h0, h1, rfl⟩ := h
  have e0 : ((PS.new L).next.ticked []).u0 = ⟨2, 1, 0, 0, 0, 0, false, none⟩ := rfl
  have e1 : ((PS.new L).next.ticked []).u1 = ⟨2, 1, 0, 0, 0, 0, false, none⟩ := rfl
  have er : ((PS.new L).next.ticked []).re = ⟨1, -1, -1, 0, 0, 0, 0⟩ := rfl
  rw [e0, er] at h0
  rw [e1] at h1
  rcases h0 with ⟨h, _⟩ | ⟨_, _, hre, hg⟩
  · rcases h with h | ⟨h, _⟩
    · simp at h
    · exact absurd rfl h
  · have hre' : re1 = ⟨1, 0, -1, 1, 0, 1, 0⟩ := hre
    have hu0 : u0' = ⟨4, 1, 0, 10, 1, 6, true, none⟩ := by
      rcases hg with ⟨_, hg⟩ | ⟨hg, _⟩
      · have hg' : US.Given ⟨2, 1, 0, 0, 0, 0, false, none⟩ 1 0 u0' := hg
        rcases hg' with ⟨h, _⟩ | ⟨_, u, hu, rfl⟩ | ⟨_, h, _⟩
        · exact absurd h (by decide)
        · rcases hu with rfl | ⟨_, h, _⟩
          · rfl
          · exact absurd rfl h
        · exact absurd rfl h
      · exact absurd rfl hg
    rw [hre'] at h1
    rcases h1 with ⟨h, _⟩ | ⟨_, _, hre2, hg2⟩
    · rcases h with h | ⟨h, _⟩
      · simp at h
      · exact absurd rfl h
    · have hre2' : re2 = ⟨1, 0, -1, 1, 0, 1, 0⟩ := hre2
      rcases hg2 with ⟨h, _⟩ | ⟨_, hu1⟩
      · exact absurd h (by decide)
      · exact ⟨hu0, hu1, by rw [hre2']⟩

theorem known_cyc {m : Nat → Nat} {w : World} {p a0 a1 r k f s : Nat} {L : Lay} (h : PairP m w p a0 a1 r k f s L (PS.new L)) (ok : LayOk L) :
    Calls Tryz.prog 9 #[.pointer (some ⟨p, 0, none⟩), .slice none 0 0] w fun x w' => ∃ v1 v2 m' ps', x = .returned (.agg #[v1, v2]) ∧ PairP m' w' p a0 a1 r k f s L ps' ∧ Ch (Mine m) w w' ∧ ps'.re.con = -1 ∧ ps'.now = 1 := by
  refine (pair_cycle0 (.slice none 0 0) [] (Sl.nil _ _) (by decide) h ok rfl (show (0 : Int) ≤ 0 from by decide) (show (0 : Int) ≤ 20000 from by decide) St.new_ok rfl ?_ ?_ ?_).mono ?_
  · intro ps2 h2
    rw [fold_nil h2]
    exact ⟨⟨(show (0 : Int) ≤ 0 from by decide), (show (0 : Int) ≤ 30000 from by decide)⟩, ⟨(show (0 : Int) ≤ 0 from by decide), (show (0 : Int) ≤ 30000 from by decide)⟩, ⟨(show (0 : Int) ≤ 1 from by decide), (show (1 : Int) ≤ 30000 from by decide)⟩⟩
  · intro ps4 h4
    rw [new_upto h4]
    exact ⟨rfl, rfl, ⟨(show (0 : Int) ≤ 1 from by decide), (show (1 : Int) ≤ 30000 from by decide)⟩, ⟨(show (0 : Int) ≤ 1 from by decide), (show (1 : Int) ≤ 30000 from by decide)⟩, ⟨(show (0 : Int) ≤ 0 from by decide), (show (0 : Int) ≤ 29000 from by decide)⟩⟩
  · intro ps4 ps5 h4 h5
    rw [new_upto h4] at h5
    obtain ⟨e0, e1, _⟩ := new_asked h5
    refine ⟨?_, ?_, ?_, ?_⟩
    · rw [e0]; exact ⟨by decide, by decide, by decide, by decide⟩
    · rw [e1]; exact ⟨by decide, by decide, by decide, by decide⟩
    · rw [e0]; decide
    · rw [e1]; decide
  · rintro x w' ⟨v1, v2, m', ps', ps4, ps5, rfl, _, _, hp, hc, h4, h5, _, _, hre, _, hn⟩
    rw [new_upto h4] at h5
    exact ⟨v1, v2, m', ps', rfl, hp, hc, by rw [hre]; exact (new_asked h5).2.2, by rw [hn]; rfl⟩

set_option maxHeartbeats 2000000 in
theorem known_yes (w : World) (hT : Tabs w) : Calls Tryz.prog 13 #[] w fun r w' => r = .returned (.bool true) ∧ Ch Noone w w' := by
  have HT := Lib.hid hT
  clear hT
  go_enter Tryz.func13, Tryz.ntmps13
  go_wp2_with fail
  refine (one_lay w).mono ?_
  rintro e w1 ⟨v, rfl, hl, c1⟩
  have HL := Lib.hid hl; clear hl
  go_wp2_with fail
  refine (pair_new _ w1 v one HL.out one_ok (HT.out.ch0 c1)).mono ?_
  rintro e w2 ⟨m, p, a0, a1, r, k, f, s, rfl, hp, hm, c2⟩
  have HP := Lib.hid hp
  have HM := Lib.hid hm
  clear hp hm
  go_wp2_with fail
  refine (known_cyc HP.out one_ok).mono ?_
  rintro e w3 ⟨v1, v2, m3, ps3, rfl, hp3, c3, hcon, hnow⟩
  have HP3 := Lib.hid hp3
  have HCo := Lib.hid (pair_con hp3)
  have HNo := Lib.hid (pair_now hp3)
  rw [hcon] at HCo
  rw [hnow] at HNo
  have C3 : Hid (Ch Noone w w3) := (c1.trans c2).then c3 fun g hg h => by
    have h' : m g ≤ 6 := h
    have := HM.out g (Nat.lt_of_lt_of_le hg c1.size)
    omega
  clear hp3 hcon hnow
  go_wp2_with fail
  refine HCo.out.mono ?_
  rintro e w4 ⟨rfl, rfl⟩
  go_wp2_with fail
  refine HNo.out.mono ?_
  rintro e w5 ⟨rfl, rfl⟩
  go_wp2_with fail
  go_ret
  exact ⟨rfl, C3.out⟩
end Go.Proofs.YtkplgggdidhnoaaGreatDoor

namespace Go.Proofs.YtkplgggdidhnoaaGreatDoor
open Go.ChangeShapes Go.WideShapes Go.ChangeAt Go.RowKit
set_option linter.unusedVariables false

theorem tk_down {u : US} {s : Bool} (h : u.mode = 0) : u.tk s = u := if_pos h
theorem cyc_idle {u : US} (h : u.works = false) : u.cyc = u := by unfold US.cyc; rw [h]; rfl
theorem hap_calm {es : List Ev} (hk : ∀ e ∈ es, CalmEv e) : ∀ {a b : PS}, PS.Fold PS.Hap es a b → b.u0 = a.u0 ∧ b.u1 = a.u1 := by
  induction es with
  | nil => intro a b h; rw [fold_nil h]; exact ⟨rfl, rfl⟩
  | cons e es ih =>
    intro a c h
    obtain ⟨b, h1, h2⟩ := h
    have h3 := ih (fun x hx => hk x (List.mem_cons_of_mem _ hx)) h2
    have hc := hk e List.mem_cons_self
    have n1 : e.kind ≠ 1 := by rcases hc with h | h | h <;> omega
    have n2 : e.kind ≠ 2 := by rcases hc with h | h | h <;> omega
    exact ⟨h3.1.trans (h1.1.trans (hapU_no n1 n2)), h3.2.trans (h1.2.1.trans (hapU_no n1 n2))⟩
theorem yl_no {es : List Ev} (hk : ∀ e ∈ es, e.kind ≠ 9) : ∀ {a b : PS}, PS.Fold PS.Yl1 es a b → b = a := by
  induction es with
  | nil => intro a b h; exact h
  | cons e es ih =>
    intro a c h
    obtain ⟨b, h1, h2⟩ := h
    have h3 := ih (fun x hx => hk x (List.mem_cons_of_mem _ hx)) h2
    have n9 := hk e List.mem_cons_self
    unfold PS.Yl1 at h1
    rw [if_neg (fun h => n9 h.1), if_neg (fun h => n9 h.1)] at h1
    exact h3.trans h1
theorem ask_down {u u' : US} {re re' : St} {i : Int} {d : Bool} (h : AskRel u re i d u' re') (hm : u.mode = 0) : u' = u ∧ re' = re := by
  rcases h with ⟨_, h1, h2⟩ | ⟨_, h, _⟩
  · exact ⟨h1, h2⟩
  · omega
/-- A cycle of two units that are down. -/
theorem down_rest {es : List Ev} {ps2 ps4 ps5 : PS} (h0 : ps2.u0.mode = 0) (h1 : ps2.u1.mode = 0) (hk : ∀ e ∈ es, e.kind ≠ 9) (hy : PS.Fold PS.Yl1 es (ps2.ticked es) ps4) :
    ps4 = ps2 ∧ (PS.Asked es ps4 ps5 → ps5.u0 = ps2.u0 ∧ ps5.u1 = ps2.u1 ∧ ps5.re = ps2.re) := by
  have e0 : ps2.ticked es = ps2 := by unfold PS.ticked; rw [tk_down h0, tk_down h1]
  rw [e0] at hy
  have e4 := yl_no hk hy
  subst e4
  refine ⟨rfl, fun ha => ?_⟩
  unfold PS.Asked at ha
  split at ha
  · obtain ⟨x0, y0, x1, y1, k0, k1, rfl⟩ := ha
    obtain ⟨e1, e2⟩ := ask_down k0 h0
    obtain ⟨e3, e4⟩ := ask_down k1 h1
    exact ⟨e1, e3, e4.trans e2⟩
  · obtain ⟨x0, y0, x1, y1, k0, k1, rfl⟩ := ha
    obtain ⟨e1, e2⟩ := ask_down k0 h1
    obtain ⟨e3, e4⟩ := ask_down k1 h0
    exact ⟨e3, e1, e4.trans e2⟩
/-- Down. -/
structure US.Off (u : US) : Prop where
  m : u.mode = 0
  cp : u.cp = none
  t : u.tick = 0
  c : u.count = 0
  l : u.left = 0
theorem US.Off.mild {u : US} (h : u.Off) : u.Mild := ⟨by rw [h.m]; decide, by rw [h.c]; decide, by rw [h.l]; decide, by rw [h.l]; decide⟩
theorem US.Off.works {u : US} (h : u.Off) : u.works = false := by unfold US.works; rw [h.m]; rfl
/-- Both are down; nobody has the field. -/
structure PS.Dead (ps : PS) : Prop where
  u0 : ps.u0.Off
  u1 : ps.u1.Off
  ln : ps.ln = LS.new
  re : ps.re.Ok
  rn : ps.re.now = ps.now
  own : ps.re.own = -1
  con : ps.re.con = -1
  ep : ps.re.epoch = 0
theorem begin_free {s : St} {n : Int} (h : s.own = -1) (h1 : s.now < n) (h2 : n ≤ 1099511627776) : s.begin n = { s with now := n, con := -1 } := by
  unfold St.begin
  rw [if_neg (by omega), if_neg (fun x => x.1 h)]
/-- One cycle in which both are down behind what happened. -/
theorem dead_cyc {es : List Ev} {ps : PS} (hn0 : 0 ≤ ps.now) (hn1 : ps.now ≤ 20000) (ro : ps.re.Ok) (rn : ps.re.now = ps.now) (own : ps.re.own = -1) (ep : ps.re.epoch = 0)
    (hk : ∀ e ∈ es, e.kind ≠ 9) (hh : ∀ ps2, PS.Fold PS.Hap es ps.next ps2 → ps2.u0.Off ∧ ps2.u1.Off) :
    (∀ ps2, PS.Fold PS.Hap es ps.next ps2 → OkTick ps2) ∧ (∀ ps4, PS.Upto es ps ps4 → OkAsk ps4) ∧ (∀ ps4 ps5, PS.Upto es ps ps4 → PS.Asked es ps4 ps5 → OkTell ps5 ∧ ps5.u0.Off ∧ ps5.u1.Off ∧ ps5.re = { ps.re with now := ps.now + 1, con := -1 }) := by
  have hb : ps.next.re = { ps.re with now := ps.now + 1, con := -1 } := begin_free own (by omega) (by omega)
  refine ⟨fun ps2 h2 => ?_, fun ps4 h4 => ?_, fun ps4 ps5 h4 h5 => ?_⟩
  · obtain ⟨o0, o1⟩ := hh ps2 h2
    have hr := (hap_keep h2).1
    refine ⟨by rw [o0.t]; exact ⟨by decide, by decide⟩, by rw [o1.t]; exact ⟨by decide, by decide⟩, ?_⟩
    rw [hr, hb]
    exact ⟨by dsimp only; omega, by dsimp only; omega⟩
  · obtain ⟨ps2, h2, hy⟩ := h4
    obtain ⟨o0, o1⟩ := hh ps2 h2
    obtain ⟨rfl, _⟩ := down_rest (ps5 := ps4) o0.m o1.m hk hy
    have hr := (hap_keep h2).1
    refine ⟨o0.cp, o1.cp, by rw [o0.t]; exact ⟨by decide, by decide⟩, by rw [o1.t]; exact ⟨by decide, by decide⟩, ?_⟩
    rw [hr, hb]
    exact ⟨by dsimp only; omega, by dsimp only; omega⟩
  · obtain ⟨ps2, h2, hy⟩ := h4
    obtain ⟨o0, o1⟩ := hh ps2 h2
    obtain ⟨rfl, ha⟩ := down_rest (ps5 := ps5) o0.m o1.m hk hy
    obtain ⟨e0, e1, e2⟩ := ha h5
    have p0 : ps5.u0.Off := e0 ▸ o0
    have p1 : ps5.u1.Off := e1 ▸ o1
    refine ⟨⟨p0.mild, p1.mild, by rw [cyc_idle p0.works, p0.m]; decide, by rw [cyc_idle p1.works, p1.m]; decide⟩, p0, p1, ?_⟩
    rw [e2, (hap_keep h2).1, hb]

/-- A cycle that leaves both down. -/
theorem cycle_dead {m : Nat → Nat} {w : World} {p a0 a1 r k f s : Nat} {L : Lay} {ps : PS} (v : Value) (es : List Ev) (hv : Sl (fun g => m g = 9) w v es.length (es.flatMap fEv)) (hl : es.length ≤ 8) (h : PairP m w p a0 a1 r k f s L ps) (ok : LayOk L) (hln : ps.ln = LS.new)
    (hn0 : 0 ≤ ps.now) (hn1 : ps.now ≤ 20000) (ro : ps.re.Ok) (rn : ps.re.now = ps.now) (own : ps.re.own = -1) (ep : ps.re.epoch = 0)
    (hk : ∀ e ∈ es, e.kind ≠ 9) (hh : ∀ ps2, PS.Fold PS.Hap es ps.next ps2 → ps2.u0.Off ∧ ps2.u1.Off) :
    Calls Tryz.prog 9 #[.pointer (some ⟨p, 0, none⟩), v] w fun x w' => ∃ v1 v2 m' ps', x = .returned (.agg #[v1, v2]) ∧ OutAt (fun g => m' g = 9) w' (.agg #[v1, v2]) (zeros L.pts.length) (nots L.sigs.length) ∧
      Agree w m m' ∧ PairP m' w' p a0 a1 r k f s L ps' ∧ Ch (Mine m) w w' ∧ ps'.Dead ∧ ps'.now = ps.now + 1 := by
  obtain ⟨h2, h4, h5⟩ := dead_cyc hn0 hn1 ro rn own ep hk hh
  refine (pair_cycle0 v es hv hl h ok hln hn0 hn1 ro rn h2 h4 (fun a b x y => (h5 a b x y).1)).mono ?_
  rintro x w' ⟨v1, v2, m', ps', ps4, ps5, rfl, ho, ha, hp, hc, k4, k5, e0, e1, e2, e3, e4⟩
  obtain ⟨_, o0, o1, er⟩ := h5 ps4 ps5 k4 k5
  refine ⟨v1, v2, m', ps', rfl, ho, ha, hp, hc, ?_, e4⟩
  rw [cyc_idle o0.works] at e0
  rw [cyc_idle o1.works] at e1
  have hr : ps'.re = { ps.re with now := ps.now + 1, con := -1 } := e2.trans er
  refine ⟨e0 ▸ o0, e1 ▸ o1, e3, ?_, by rw [hr, e4], by rw [hr]; exact own, by rw [hr], by rw [hr]; exact ep⟩
  rw [hr]
  have h1 := ro.a1
  exact ⟨by dsimp only; omega, by dsimp only; omega, ro.o0, ro.o1, ro.a0, by dsimp only; omega, ro.e0, ro.e1⟩
end Go.Proofs.YtkplgggdidhnoaaGreatDoor
