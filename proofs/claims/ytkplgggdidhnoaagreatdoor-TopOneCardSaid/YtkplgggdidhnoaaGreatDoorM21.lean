/-
  The contract of pair: New. Conditions: sizes. What holds of a Pair in each cycle: plain, no program in sight. No condition. pointsmantop.one and known: a layout of one route; the pair over it answers as known says. Condition: the tables of unicode/utf8 are laid. The plain law behind TopOne: from one unit to the other there is a gap; nothing is told where none is connected. No condition.
-/
import Derived.Test.YtkplgggdidhnoaaGreatDoorM17
import Derived.Test.YtkplgggdidhnoaaGreatDoorM16
import Derived.Test.YtkplgggdidhnoaaGreatDoorM14
import Derived.Test.YtkplgggdidhnoaaGreatDoorM15
import Derived.Test.YtkplgggdidhnoaaGreatDoorM20
namespace Go.Proofs.YtkplgggdidhnoaaGreatDoor
open Go.ChangeShapes Go.WideShapes Go.ChangeAt Go.RowKit
set_option linter.unusedVariables false

def PS.new (L : Lay) : PS := ⟨(US.new L.routes.length), (US.new L.routes.length), St.new, LS.new, List.replicate L.secs.length false, List.replicate L.pts.length Pt.start, 0⟩

/-- A pair that is being made. -/
structure MadeP (m : Nat → Nat) (w : World) (p r k f s : Nat) (x0 x1 : Value) (L : Lay) : Prop where
  mp : m p = 0
  mr : m r = 1
  blk : Blk w p 73 #[x0, x1, .pointer (some ⟨r, 0, none⟩), .pointer (some ⟨k, 0, none⟩), .pointer (some ⟨f, 0, none⟩), .pointer (some ⟨s, 0, none⟩), .int .i64 0]
  relay : RelayAt w r St.new
  link : LinkAt (fun g => m g = 2) w k LS.new
  field : FieldAt (fun g => m g = 3) w f (List.replicate L.secs.length false) (List.replicate L.pts.length Pt.start)
  safe : ∃ rs, LockAt (fun g => m g = 4) w s L rs
theorem MadeP.step {m : Nat → Nat} {w w' : World} {p r k f s : Nat} {x0 x1 : Value} {L : Lay} (h : MadeP m w p r k f s x0 x1 L) (c : Ch Noone w w') (l : Nat) : MadeP (lab m w.heap.size l) w' p r k f s x0 x1 L :=
  ⟨(lab_lt h.blk.lt).trans h.mp, (lab_lt (Blk.lt h.relay)).trans h.mr, c.blk h.blk (fun h => h), c.blk h.relay (fun h => h), tr_link h.link (c.no (i := 99)) (by decide) l, tr_field h.field (c.no (i := 99)) (by decide) l, tr_lock h.safe (c.no (i := 99)) (by decide) l⟩
theorem MadeP.put {m : Nat → Nat} {w w' : World} {p r k f s : Nat} {x0 x1 y0 y1 : Value} {L : Lay} (h : MadeP m w p r k f s x0 x1 L) (c : Ch (fun g => g = p) w w') (hb : Blk w' p 73 #[y0, y1, .pointer (some ⟨r, 0, none⟩), .pointer (some ⟨k, 0, none⟩), .pointer (some ⟨f, 0, none⟩), .pointer (some ⟨s, 0, none⟩), .int .i64 0]) : MadeP m w' p r k f s y0 y1 L := by
  have hp := h.mp
  refine ⟨hp, h.mr, hb, c.blk h.relay (fun e => by have h1 := h.mr; rw [e] at h1; omega), h.link.ch c (fun g hg _ e => by have h1 : m g = 2 := hg; rw [e] at h1; omega), h.field.ch c (fun g hg _ e => by have h1 : m g = 3 := hg; rw [e] at h1; omega), ?_⟩
  obtain ⟨rs, h4⟩ := h.safe
  exact ⟨rs, h4.ch c (fun g hg _ e => by have h1 : m g = 4 := hg; rw [e] at h1; omega)⟩

set_option maxRecDepth 100000 in
set_option maxHeartbeats 8000000 in
theorem pair_new (B : Nat → Prop) (w : World) (v : Value) (L : Lay) (hL : LayAt B w v L) (ok : LayOk L) (hT : Tabs w) :
    Calls Tryz.prog 8 #[v] w fun x w' => ∃ m p a0 a1 r k f s, x = .returned (.tuple #[.pointer (some ⟨p, 0, none⟩), .int .i64 0]) ∧ PairP m w' p a0 a1 r k f s L (PS.new L) ∧ (∀ g, g < w.heap.size → m g = 9) ∧ Ch Noone w w' := by
  have HL := Lib.hid hL
  have HT := Lib.hid hT
  have OK := Lib.hid ok
  clear hT ok
  obtain ⟨q1, q2, q3, q4, rs, rfl, -, -, -, -, -, -⟩ := hL
  have b0 := Blk.new w 26 #[q1, q2, q3, q4]
  have C0 : Ch Noone w (w.alloc (.cells #[q1, q2, q3, q4] 26)) := (Ch.refl _ _).alloc _
  go_enter Tryz.func8, Tryz.ntmps8
  go_wp2_with fail
  generalize hw0 : w.alloc (.cells #[q1, q2, q3, q4] 26) = w0 at *
  clear hw0
  refine (lock_new B _ _ L (HL.out.ch0 C0) OK.out (HT.out.ch0 C0)).mono ?_
  rintro x w1 ⟨s, rfl, hs1, c1⟩
  have HS1 := Lib.hid hs1; clear hs1
  have C1 := C0.trans c1
  have b1 := c1.blk b0 (fun h => h)
  have l0 := b1.cell 0
  have l1 := b1.cell 1
  have l2 := b1.cell 2
  have l3 := b1.cell 3
  simp only [List.getElem?_toArray, List.getElem?_cons_zero, List.getElem?_cons_succ] at l0 l1 l2 l3
  go_wp2_with fail
  clear l0 l1 l2 l3
  refine (field_new B _ _ L (HL.out.ch0 C1) OK.out (HT.out.ch0 C1)).mono ?_
  rintro x w2 ⟨f, rfl, hf2, c2⟩
  have HF2 := Lib.hid hf2; clear hf2
  go_wp2_with fail
  refine (relay_new w2).mono ?_
  rintro x w3 ⟨rfl, hr3, c3⟩
  have HR3 := Lib.hid hr3; clear hr3
  go_wp2_with fail
  refine (link_new w3).mono ?_
  rintro x w4 ⟨rfl, hk4, c4⟩
  have HK4 := Lib.hid hk4; clear hk4
  go_wp2_with fail
  obtain ⟨w5, hw5⟩ : ∃ w5, w5 = w4.alloc (.cells #[.pointer none, .pointer none, .pointer (some ⟨w2.heap.size, 0, none⟩), .pointer (some ⟨w3.heap.size, 0, none⟩), .pointer (some ⟨f, 0, none⟩), .pointer (some ⟨s, 0, none⟩), .int .i64 0] 73) := ⟨_, rfl⟩
  rw [← hw5]
  have c5 : Ch Noone w4 w5 := by rw [hw5]; exact (Ch.refl _ _).alloc _
  have hb5 : Blk w5 w4.heap.size 73 #[.pointer none, .pointer none, .pointer (some ⟨w2.heap.size, 0, none⟩), .pointer (some ⟨w3.heap.size, 0, none⟩), .pointer (some ⟨f, 0, none⟩), .pointer (some ⟨s, 0, none⟩), .int .i64 0] := by rw [hw5]; exact Blk.new _ _ _
  have k1 := c1.size
  have k2 := c2.size
  have k3 := c3.size
  have k4 := c4.size
  obtain ⟨n1, hn1⟩ : ∃ n, n = lab (fun _ => 9) w0.heap.size 4 := ⟨_, rfl⟩
  obtain ⟨n2, hn2⟩ : ∃ n, n = lab n1 w1.heap.size 3 := ⟨_, rfl⟩
  obtain ⟨n3, hn3⟩ : ∃ n, n = lab n2 w2.heap.size 1 := ⟨_, rfl⟩
  obtain ⟨n4, hn4⟩ : ∃ n, n = lab n3 w3.heap.size 2 := ⟨_, rfl⟩
  obtain ⟨n5, hn5⟩ : ∃ n, n = lab n4 w4.heap.size 0 := ⟨_, rfl⟩
  have s1 : ∃ rs, LockAt (fun g => n1 g = 4) w1 s L rs := ⟨_, HS1.out.mono fun g hg _ => by rw [hn1]; exact lab_ge hg⟩
  have s2 : ∃ rs, LockAt (fun g => n2 g = 4) w2 s L rs := by rw [hn2]; exact tr_lock s1 (c2.no (i := 99)) (by decide) 3
  have s3 : ∃ rs, LockAt (fun g => n3 g = 4) w3 s L rs := by rw [hn3]; exact tr_lock s2 (c3.no (i := 99)) (by decide) 1
  have s4 : ∃ rs, LockAt (fun g => n4 g = 4) w4 s L rs := by rw [hn4]; exact tr_lock s3 (c4.no (i := 99)) (by decide) 2
  have s5 : ∃ rs, LockAt (fun g => n5 g = 4) w5 s L rs := by rw [hn5]; exact tr_lock s4 (c5.no (i := 99)) (by decide) 0
  have f2 : FieldAt (fun g => n2 g = 3) w2 f (List.replicate L.secs.length false) (List.replicate L.pts.length Pt.start) := HF2.out.mono fun g hg _ => by rw [hn2]; exact lab_ge hg
  have f3 : FieldAt (fun g => n3 g = 3) w3 f (List.replicate L.secs.length false) (List.replicate L.pts.length Pt.start) := by rw [hn3]; exact tr_field f2 (c3.no (i := 99)) (by decide) 1
  have f4 : FieldAt (fun g => n4 g = 3) w4 f (List.replicate L.secs.length false) (List.replicate L.pts.length Pt.start) := by rw [hn4]; exact tr_field f3 (c4.no (i := 99)) (by decide) 2
  have f5 : FieldAt (fun g => n5 g = 3) w5 f (List.replicate L.secs.length false) (List.replicate L.pts.length Pt.start) := by rw [hn5]; exact tr_field f4 (c5.no (i := 99)) (by decide) 0
  have g4 : LinkAt (fun g => n4 g = 2) w4 w3.heap.size LS.new := HK4.out.mono fun g hg _ => by rw [hn4]; exact lab_ge hg
  have g5 : LinkAt (fun g => n5 g = 2) w5 w3.heap.size LS.new := by rw [hn5]; exact tr_link g4 (c5.no (i := 99)) (by decide) 0
  have r3 := Blk.lt HR3.out
  have r4 := c4.blk HR3.out (fun h => h)
  have r5 := c5.blk r4 (fun h => h)
  have mr5 : n5 w2.heap.size = 1 := by rw [hn5, lab_lt (Blk.lt r4), hn4, lab_lt r3, hn3]; exact lab_ge (Nat.le_refl _)
  have mp5 : n5 w4.heap.size = 0 := by rw [hn5]; exact lab_ge (Nat.le_refl _)
  have low5 : ∀ g, g < w0.heap.size → n5 g = 9 := fun g hg => by rw [hn5, lab_lt (by omega), hn4, lab_lt (by omega), hn3, lab_lt (by omega), hn2, lab_lt (by omega), hn1, lab_lt hg]
  have HM5 : Hid (MadeP n5 w5 w4.heap.size w2.heap.size w3.heap.size f s (.pointer none) (.pointer none) L) := ⟨mp5, mr5, hb5, r5, g5, f5, s5⟩
  have hbx5 : Blk w5 w.heap.size 26 #[q1, q2, q3, q4] := c5.blk (c4.blk (c3.blk (c2.blk b1 (fun h => h)) (fun h => h)) (fun h => h)) (fun h => h)
  have hc5 : Ch Noone w w5 := (((C1.trans c2).trans c3).trans c4).trans c5
  have hz5 : w0.heap.size ≤ w5.heap.size := (((c1.trans c2).trans c3).trans c4).trans c5 |>.size
  obtain ⟨p, hp⟩ : ∃ p, p = w4.heap.size := ⟨_, rfl⟩
  obtain ⟨r, hr⟩ : ∃ p, p = w2.heap.size := ⟨_, rfl⟩
  obtain ⟨k, hk⟩ : ∃ p, p = w3.heap.size := ⟨_, rfl⟩
  rw [← hp, ← hr, ← hk] at HM5
  rw [← hp]
  have HC0z := C0.size
  have hwlt : w.heap.size < w0.heap.size := b0.lt
  clear s1 s2 s3 s4 s5 f2 f3 f4 f5 g4 g5 r3 r4 r5 mr5 mp5 hb5 hw5 hn1 hn2 hn3 hn4 hn5 k1 k2 k3 k4 b1 b0 HS1 HF2 HR3 HK4 c1 c2 c3 c4 c5 C1 hp hr hk
  go_loopw [29] (fun i wr => ∃ (mq : Nat → Nat) (x0 x1 : Value), MadeP mq wr p r k f s x0 x1 L ∧ (∀ g, g < w0.heap.size → mq g = 9) ∧ Ch Noone w wr ∧ Blk wr w.heap.size 26 #[q1, q2, q3, q4] ∧ w0.heap.size ≤ wr.heap.size ∧
    ((i = .int .i64 0 ∧ x0 = .pointer none ∧ x1 = .pointer none) ∨ (i = .int .i64 1 ∧ ∃ a0, x0 = .pointer (some ⟨a0, 0, none⟩) ∧ x1 = .pointer none ∧ ∃ rs, UnitAt (fun g => mq g = 5) wr a0 L (US.new L.routes.length) rs) ∨
     (i = .int .i64 2 ∧ ∃ a0 a1, x0 = .pointer (some ⟨a0, 0, none⟩) ∧ x1 = .pointer (some ⟨a1, 0, none⟩) ∧ (∃ rs, UnitAt (fun g => mq g = 5) wr a0 L (US.new L.routes.length) rs) ∧ ∃ rs, UnitAt (fun g => mq g = 6) wr a1 L (US.new L.routes.length) rs))) (fun i _ => (2 - intOf i).toNat)
  case atStart => exact ⟨n5, _, _, HM5.out, low5, hc5, hbx5, hz5, .inl ⟨rfl, rfl, rfl⟩⟩
  case round =>
    clear HM5 hbx5 hc5 hz5 low5
    obtain ⟨mq, x0, x1, hm, hlo, hc, hbx, hz, hi⟩ := hrel
    have HM := Lib.hid hm
    have HLow := Lib.hid hlo
    have HC := Lib.hid hc
    have HBx := Lib.hid hbx
    have HZ := Lib.hid hz
    have HPx : Hid (w.heap.size ≠ p) := fun e => by
      have h1 := hm.mp
      have h2 := hlo _ hwlt
      rw [e, h1] at h2
      omega
    obtain ⟨l0, l1, l2, l3⟩ := Blk.cells4 hbx
    clear hm hlo hc hbx hz l0 l1 l2 l3
    rcases hi with ⟨rfl, rfl, rfl⟩ | ⟨rfl, a0, rfl, rfl, hu0⟩ | ⟨rfl, a0, a1, rfl, rfl, hu0, hu1⟩
    · have HUN := Lib.hid (unit_new B wr.drew _ L (HL.out.ch0 HC.out.drew) OK.out (HT.out.ch0 HC.out.drew))
      go_wp2_with fail
      go_region_held3 (fun W => W.cell? ⟨w.heap.size, 0, none⟩ = some q1 ∧ W.cell? ⟨w.heap.size, 0 + 1, none⟩ = some q2 ∧ W.cell? ⟨w.heap.size, 0 + 2, none⟩ = some q3 ∧ W.cell? ⟨w.heap.size, 0 + 3, none⟩ = some q4) (first | exact Blk.cells4 HBx.out.drew | exact Blk.cells4 (c2.blk HBx.out.drew (fun h => h)) | exact Blk.cells4 ((c2.blk HBx.out.drew (fun h => h)).other HPx.out _ _))
        (first | (go_at_call 25; refine HUN.out.mono ?_; rintro x w6 ⟨u, rfl, hu6, c2⟩; have hp6 := c2.blk HM.out.blk.drew (fun h => h); have z0 : w6.cell? ⟨p, 0, none⟩ = some (.pointer none) := hp6.cell 0; have zf := hp6.free 0))
      have c2 : Ch Noone wr w6 := (Ch.refl _ _).drew.trans c2
      have HU6 := Lib.hid hu6
      have HM6 := Lib.hid (HM.out.step c2 5)
      have hmp := HM6.out.mp
      have cT : Ch (fun g => g = p) w6 (w6.setCell ⟨p, 0, none⟩ (.pointer (some ⟨u, 0, none⟩))) := (Ch.refl _ _).set1 _ _
      have HUn : Hid (∃ rs, UnitAt (fun g => lab mq wr.heap.size 5 g = 5) (w6.setCell ⟨p, 0, none⟩ (.pointer (some ⟨u, 0, none⟩))) u L (US.new L.routes.length) rs) := ⟨_, (HU6.out.mono fun g hg _ => (lab_ge hg : lab mq wr.heap.size 5 g = 5)).ch cT (fun g hg _ e => by have h1 : lab mq wr.heap.size 5 g = 5 := hg; rw [e, hmp] at h1; omega)⟩
      have HM7 := Lib.hid (HM6.out.put (y0 := (.pointer (some ⟨u, 0, none⟩))) (y1 := (.pointer none)) cT (by have := HM6.out.blk.set 0 (.pointer (some ⟨u, 0, none⟩)); simpa using this))
      have hpw := HM.out.blk.lt
      have HCw := HC.out
      have hlow : ∀ g, g < w0.heap.size → lab mq wr.heap.size 5 g = 9 := fun g hg => (lab_lt (Nat.lt_of_lt_of_le hg HZ.out)).trans (HLow.out g hg)
      have hbx : Blk (w6.setCell ⟨p, 0, none⟩ (.pointer (some ⟨u, 0, none⟩))) w.heap.size 26 #[q1, q2, q3, q4] := (c2.blk HBx.out (fun h => h)).other HPx.out _ _
      have hcc : Ch Noone w (w6.setCell ⟨p, 0, none⟩ (.pointer (some ⟨u, 0, none⟩))) := (HCw.trans c2).then cT fun g hg e => by
        have h1 := HLow.out g (Nat.lt_of_lt_of_le hg C0.size)
        rw [e, HM.out.mp] at h1
        omega
      go_wp2_with fail
      go_roundw
      case rel => exact ⟨_, _, _, HM7.out, hlow, hcc, hbx, Nat.le_trans HZ.out (Nat.le_trans c2.size cT.size), .inr (.inl ⟨rfl, u, rfl, rfl, HUn.out⟩)⟩
      case measure => simp [intOf]

    · have HU0 := Lib.hid hu0
      clear hu0
      have HUN := Lib.hid (unit_new B wr.drew _ L (HL.out.ch0 HC.out.drew) OK.out (HT.out.ch0 HC.out.drew))
      go_wp2_with fail
      go_region_held3 (fun W => W.cell? ⟨w.heap.size, 0, none⟩ = some q1 ∧ W.cell? ⟨w.heap.size, 0 + 1, none⟩ = some q2 ∧ W.cell? ⟨w.heap.size, 0 + 2, none⟩ = some q3 ∧ W.cell? ⟨w.heap.size, 0 + 3, none⟩ = some q4) (first | exact Blk.cells4 HBx.out.drew | exact Blk.cells4 (c2.blk HBx.out.drew (fun h => h)) | exact Blk.cells4 ((c2.blk HBx.out.drew (fun h => h)).other HPx.out _ _))
        (first | (go_at_call 25; refine HUN.out.mono ?_; rintro x w6 ⟨u, rfl, hu6, c2⟩; have hp6 := c2.blk HM.out.blk.drew (fun h => h); have z1 : w6.cell? ⟨p, 1, none⟩ = some (.pointer none) := hp6.cell 1; have zf := hp6.free 1))
      have c2 : Ch Noone wr w6 := (Ch.refl _ _).drew.trans c2
      have HU6 := Lib.hid hu6
      have HM6 := Lib.hid (HM.out.step c2 6)
      have hmp := HM6.out.mp
      have cT : Ch (fun g => g = p) w6 (w6.setCell ⟨p, 1, none⟩ (.pointer (some ⟨u, 0, none⟩))) := (Ch.refl _ _).set1 _ _
      have HU0b := Lib.hid (by obtain ⟨rs0, h0⟩ := tr_unit HU0.out (c2.no (i := 99)) (by decide) 6; exact (⟨rs0, h0.ch cT (fun g hg _ e => by have h1 : lab mq wr.heap.size 6 g = 5 := hg; rw [e, hmp] at h1; omega)⟩ : ∃ rs, UnitAt (fun g => lab mq wr.heap.size 6 g = 5) _ a0 L (US.new L.routes.length) rs))
      have HUn : Hid (∃ rs, UnitAt (fun g => lab mq wr.heap.size 6 g = 6) (w6.setCell ⟨p, 1, none⟩ (.pointer (some ⟨u, 0, none⟩))) u L (US.new L.routes.length) rs) := ⟨_, (HU6.out.mono fun g hg _ => (lab_ge hg : lab mq wr.heap.size 6 g = 6)).ch cT (fun g hg _ e => by have h1 : lab mq wr.heap.size 6 g = 6 := hg; rw [e, hmp] at h1; omega)⟩
      have HM7 := Lib.hid (HM6.out.put (y0 := (.pointer (some ⟨a0, 0, none⟩))) (y1 := (.pointer (some ⟨u, 0, none⟩))) cT (by have := HM6.out.blk.set 1 (.pointer (some ⟨u, 0, none⟩)); simpa using this))
      have hpw := HM.out.blk.lt
      have HCw := HC.out
      have hlow : ∀ g, g < w0.heap.size → lab mq wr.heap.size 6 g = 9 := fun g hg => (lab_lt (Nat.lt_of_lt_of_le hg HZ.out)).trans (HLow.out g hg)
      have hbx : Blk (w6.setCell ⟨p, 1, none⟩ (.pointer (some ⟨u, 0, none⟩))) w.heap.size 26 #[q1, q2, q3, q4] := (c2.blk HBx.out (fun h => h)).other HPx.out _ _
      have hcc : Ch Noone w (w6.setCell ⟨p, 1, none⟩ (.pointer (some ⟨u, 0, none⟩))) := (HCw.trans c2).then cT fun g hg e => by
        have h1 := HLow.out g (Nat.lt_of_lt_of_le hg C0.size)
        rw [e, HM.out.mp] at h1
        omega
      go_wp2_with fail
      go_roundw
      case rel => exact ⟨_, _, _, HM7.out, hlow, hcc, hbx, Nat.le_trans HZ.out (Nat.le_trans c2.size cT.size), .inr (.inr ⟨rfl, a0, u, rfl, rfl, HU0b.out, HUn.out⟩)⟩
      case measure => simp [intOf]

    · go_wp2_with fail
      go_ret2
      have h := HM.out
      exact ⟨mq, p, a0, a1, r, k, f, s, rfl, ⟨h.mp, h.mr, h.blk, h.relay, h.link, h.field, h.safe, hu0, hu1, List.length_replicate, List.length_replicate, fun q hq => by
        have := List.eq_of_mem_replicate hq
        subst this
        exact ⟨⟨by decide, by decide⟩, by decide, by decide⟩⟩, fun g hg => HLow.out g (Nat.lt_of_lt_of_le hg HC0z), HC.out⟩
end Go.Proofs.YtkplgggdidhnoaaGreatDoor

namespace Go.Proofs.YtkplgggdidhnoaaGreatDoor
open Go.ChangeShapes Go.WideShapes Go.ChangeAt Go.RowKit
set_option linter.unusedVariables false

/-- A unit's numbers are small; a Forced one has cycles to go. -/
structure US.Fit (T : Int) (u : US) : Prop where
  c : 0 ≤ u.count
  l0 : 0 ≤ u.left
  l1 : u.left ≤ 10
  f : u.mode = 4 → 1 ≤ u.left
  t0 : 0 ≤ u.tick
  t1 : u.tick ≤ T
theorem US.Fit.up {T T' : Int} {u : US} (h : u.Fit T) (hT : T ≤ T') : u.Fit T' := ⟨h.c, h.l0, h.l1, h.f, h.t0, Int.le_trans h.t1 hT⟩
theorem US.Fit.leave {T : Int} {u : US} (h : u.Fit T) : u.leave.Fit T := ⟨h.c, h.l0, h.l1, fun e => by have e' : (2 : Int) = 4 := e; omega, h.t0, h.t1⟩
theorem US.Fit.hapU {T : Int} {u : US} (h : u.Fit T) (e : Ev) (i : Int) : (hapU e i u).Fit T := by
  have hT : 0 ≤ T := Int.le_trans h.t0 h.t1
  unfold Go.Proofs.YtkplgggdidhnoaaGreatDoor.hapU
  split
  · split
    · exact ⟨Int.le_refl _, h.l0, h.l1, fun e => by have e' : (0 : Int) = 4 := e; omega, h.t0, h.t1⟩
    · split
      · unfold US.start
        split
        · exact ⟨h.c, h.l0, h.l1, fun e => by have e' : (1 : Int) = 4 := e; omega, Int.le_refl _, hT⟩
        · exact h
      · exact h
  · exact h
theorem US.Fit.tk0 {T : Int} {u : US} (h : u.Fit T) (s : Bool) : (u.tk0 s).Fit (T + 1) := by
  have h0 := h.t0
  have h1 := h.t1
  refine ⟨h.c, h.l0, h.l1, h.f, ?_, ?_⟩ <;> (unfold US.tk0; cases s <;> simp <;> omega)
theorem US.Fit.tk {T : Int} {u : US} (h : u.Fit T) (s : Bool) : (u.tk s).Fit (T + 1) := by
  unfold US.tk
  split
  · exact h.up (by omega)
  · split
    · split
      · have := h.tk0 s
        exact ⟨this.c, this.l0, this.l1, fun e => by have e' : (2 : Int) = 4 := e; omega, this.t0, this.t1⟩
      · exact h.tk0 s
    · split
      · exact (h.tk0 s).leave
      · exact h.tk0 s
theorem US.Fit.yld {T : Int} {u : US} (h : u.Fit T) : u.yld.Fit T := by
  unfold US.yld
  split
  · exact h.leave
  · exact h
theorem US.Fit.heard {T : Int} {u u' : US} {bs : List UInt8} (h : u.Fit T) (k : US.HearR bs u u') : u'.Fit T := by
  rcases k.1 with rfl | ⟨_, c, r, rfl⟩
  · exact h
  · exact ⟨h.c, h.l0, h.l1, h.f, h.t0, h.t1⟩
theorem US.Fit.given {T : Int} {u u' : US} {ep la : Int} (h : u.Fit T) (hl : 0 ≤ la) (k : u.Given ep la u') : u'.Fit T := by
  rcases k with ⟨_, _, rfl⟩ | ⟨_, v, hv, rfl⟩ | ⟨_, _, rfl⟩
  · exact ⟨h.c, h.l0, h.l1, h.f, h.t0, h.t1⟩
  · rcases hv with rfl | ⟨_, _, c, r, hc, rfl⟩
    · exact ⟨hl, by show (0 : Int) ≤ 10; omega, by show (10 : Int) ≤ 10; omega, fun _ => by show (1 : Int) ≤ 10; omega, h.t0, h.t1⟩
    · exact ⟨Int.le_trans hl hc, h.l0, h.l1, fun e => by have e' : (3 : Int) = 4 := e; omega, h.t0, h.t1⟩
  · exact h
theorem US.counted_count {u : US} (h : 0 ≤ u.count) : 0 ≤ u.counted.count := by
  unfold US.counted
  dsimp only
  split <;> omega
theorem US.Fit.cyc {T : Int} {u : US} (h : u.Fit T) : u.cyc.Fit T := by
  unfold US.cyc
  split
  · rename_i hw
    split
    · exact ⟨US.counted_count h.c, h.l0, h.l1, h.f, h.t0, h.t1⟩
    · rename_i h3
      have hm4 : u.mode = 4 := by
        have := (Bool.and_eq_true_iff.1 hw).1
        unfold US.works at this
        simp [h3] at this
        exact this
      have h1 := h.f hm4
      have h2 := h.l1
      refine ⟨US.counted_count h.c, by show 0 ≤ u.left - 1; omega, by show u.left - 1 ≤ 10; omega, fun e => ?_, h.t0, h.t1⟩
      have e' : (if u.left - 1 ≤ 0 then (3 : Int) else u.mode) = 4 := e
      split at e'
      · omega
      · show 1 ≤ u.left - 1; omega
  · exact h
theorem US.Fit.cycR {T : Int} {u u' : US} {L : Lay} {occ : List Bool} {lies : List Int} {on : Bool} {cs : List Cmd} {d : List Int} {q : List Bool} (h : u.Fit T) (k : u.Cyc L occ lies on cs u' d q) : u'.Fit T := by
  rcases k with ⟨_, rfl, _, _⟩ | ⟨_, _, r2, _, rfl⟩
  · exact h.cyc
  · exact ⟨US.counted_count h.c, h.l0, h.l1, h.f, h.t0, h.t1⟩

/-- What holds at every step of a cycle. -/
structure PS.J (n T E : Int) (ps : PS) : Prop where
  ro : ps.re.Ok
  rn : ps.re.now = n
  nw : ps.now = n
  ep : ps.re.epoch ≤ E
  la : 0 ≤ ps.re.last
  u0 : ps.u0.Fit T
  u1 : ps.u1.Fit T
  s0 : ps.ln.s0 = []
  s1 : ps.ln.s1 = []
theorem St.begin_parts {s : St} (n : Int) (h1 : s.now < n) (h2 : n ≤ 1099511627776) : (s.begin n).now = n ∧ (s.begin n).epoch = s.epoch ∧ (s.begin n).last = s.last := by
  unfold St.begin
  rw [if_neg (by omega)]
  split <;> exact ⟨rfl, rfl, rfl⟩
theorem PS.J.next {n T E : Int} {ps : PS} (h : ps.J n T E) (hn : n ≤ 20000) : ps.next.J (n + 1) T E := by
  have hp := St.begin_parts (s := ps.re) (ps.now + 1) (by rw [h.rn, h.nw]; omega) (by rw [h.nw]; omega)
  have e : ps.now + 1 = n + 1 := by rw [h.nw]
  exact ⟨St.begin_ok h.ro _, by show (ps.re.begin (ps.now + 1)).now = _; rw [hp.1, e], e, by show (ps.re.begin (ps.now + 1)).epoch ≤ _; rw [hp.2.1]; exact h.ep, by show 0 ≤ (ps.re.begin (ps.now + 1)).last; rw [hp.2.2]; exact h.la, h.u0, h.u1, h.s0, h.s1⟩
theorem PS.J.hap {n T E : Int} {e : Ev} {a b : PS} (h : a.J n T E) (k : PS.Hap e a b) : b.J n T E := by
  obtain ⟨k0, k1, k2, k3, k4, -⟩ := k
  exact ⟨by rw [k2]; exact h.ro, by rw [k2]; exact h.rn, by rw [k4]; exact h.nw, by rw [k2]; exact h.ep, by rw [k2]; exact h.la, by rw [k0]; exact h.u0.hapU _ _, by rw [k1]; exact h.u1.hapU _ _, by rw [k3]; exact h.s0, by rw [k3]; exact h.s1⟩
theorem PS.Fold.keep {R : Ev → PS → PS → Prop} {P : PS → Prop} (h1 : ∀ e a b, P a → R e a b → P b) : ∀ {es : List Ev} {a b : PS}, P a → PS.Fold R es a b → P b
  | [], a, b, h, k => by
    have e : b = a := k
    rw [e]; exact h
  | e :: es, a, b, h, ⟨m, k1, k2⟩ => PS.Fold.keep h1 (h1 e a m h k1) k2
theorem LS.take_s (x : LS) (i : Int) : (x.take i).s0 = x.s0 ∧ (x.take i).s1 = x.s1 := by
  unfold LS.take
  split <;> exact ⟨rfl, rfl⟩
theorem PS.J.ticked {n T E : Int} {es : List Ev} {a b : PS} (h : a.J n T E) (k : PS.Ticked es a b) : b.J n (T + 1) E := by
  obtain ⟨x0, x1, k0, k1, rfl⟩ := k
  exact ⟨h.ro, h.rn, h.nw, h.ep, h.la, (h.u0.tk _).heard k0, (h.u1.tk _).heard k1, by show ((a.ln.take 0).take 1).s0 = []; rw [(LS.take_s _ _).1, (LS.take_s _ _).1]; exact h.s0, by show ((a.ln.take 0).take 1).s1 = []; rw [(LS.take_s _ _).2, (LS.take_s _ _).2]; exact h.s1⟩
theorem St.yield_parts (s : St) (u : Int) : (s.yield u).1.now = s.now ∧ (s.yield u).1.epoch = s.epoch ∧ (s.yield u).1.last = s.last := by
  unfold St.yield
  split <;> exact ⟨rfl, rfl, rfl⟩
theorem PS.J.yl1 {n T E : Int} {e : Ev} {a b : PS} (h : a.J n T E) (k : PS.Yl1 e a b) : b.J n T E := by
  have key : ∀ i, ((if (a.u0.mode == 3) = true then (a.re.yield i).1 else a.re) : St).Ok := fun i => by split; exact St.yield_ok h.ro _; exact h.ro
  unfold PS.Yl1 at k
  split at k
  · subst k
    refine ⟨?_, ?_, h.nw, ?_, ?_, h.u0.yld, h.u1, h.s0, h.s1⟩ <;> (dsimp only; split)
    · exact St.yield_ok h.ro _
    · exact h.ro
    · rw [(St.yield_parts _ _).1]; exact h.rn
    · exact h.rn
    · rw [(St.yield_parts _ _).2.1]; exact h.ep
    · exact h.ep
    · rw [(St.yield_parts _ _).2.2]; exact h.la
    · exact h.la
  · split at k
    · subst k
      refine ⟨?_, ?_, h.nw, ?_, ?_, h.u0, h.u1.yld, h.s0, h.s1⟩ <;> (dsimp only; split)
      · exact St.yield_ok h.ro _
      · exact h.ro
      · rw [(St.yield_parts _ _).1]; exact h.rn
      · exact h.rn
      · rw [(St.yield_parts _ _).2.1]; exact h.ep
      · exact h.ep
      · rw [(St.yield_parts _ _).2.2]; exact h.la
      · exact h.la
    · subst k; exact h
theorem St.ask_parts {s : St} (u c : Int) (hl : 0 ≤ s.last) : (s.ask u c).1.now = s.now ∧ (s.ask u c).1.epoch ≤ s.epoch + 1 ∧ 0 ≤ (s.ask u c).1.last ∧ 0 ≤ (s.ask u c).2.2.1 := by
  unfold St.ask
  split
  · exact ⟨rfl, by show s.epoch ≤ _; omega, hl, Int.le_refl _⟩
  · split
    · exact ⟨rfl, by show s.epoch ≤ _; omega, by show 0 ≤ c; omega, hl⟩
    · split
      · exact ⟨rfl, Int.le_refl _, hl, hl⟩
      · exact ⟨rfl, by show s.epoch ≤ _; omega, hl, Int.le_refl _⟩
/-- One asking: the unit and the relay. -/
theorem ask_fit {T E : Int} {u u' : US} {re re' : St} {i : Int} {d : Bool} (k : AskRel u re i d u' re') (hu : u.Fit T) (ro : re.Ok) (he : re.epoch ≤ E) (hE : E ≤ 30000) (hl : 0 ≤ re.last) :
    u'.Fit T ∧ re'.Ok ∧ re'.now = re.now ∧ re'.epoch ≤ E + 1 ∧ 0 ≤ re'.last := by
  rcases k with ⟨_, rfl, rfl⟩ | ⟨_, _, rfl, k⟩
  · exact ⟨hu, ro, rfl, by omega, hl⟩
  · have hp := St.ask_parts (s := re) i u.count hl
    refine ⟨?_, St.ask_ok ro (by omega) _ _, hp.1, by have := hp.2.1; omega, hp.2.2.1⟩
    rcases k with ⟨_, k⟩ | ⟨_, rfl⟩
    · exact hu.given hp.2.2.2 k
    · exact hu
theorem PS.J.asked {n T E : Int} {es : List Ev} {a b : PS} (h : a.J n T E) (hE : E ≤ 20000) (k : PS.Asked es a b) : b.J n T (E + 2) := by
  unfold PS.Asked at k
  split at k
  · obtain ⟨u0', re1, u1', re2, k0, k1, rfl⟩ := k
    obtain ⟨f0, r0, n0, e0, l0⟩ := ask_fit k0 h.u0 h.ro h.ep (by omega) h.la
    obtain ⟨f1, r1, n1, e1, l1⟩ := ask_fit k1 h.u1 r0 e0 (by omega) l0
    exact ⟨r1, n1.trans (n0.trans h.rn), h.nw, by show re2.epoch ≤ _; omega, l1, f0, f1, h.s0, h.s1⟩
  · obtain ⟨u0', re1, u1', re2, k0, k1, rfl⟩ := k
    obtain ⟨f0, r0, n0, e0, l0⟩ := ask_fit k0 h.u1 h.ro h.ep (by omega) h.la
    obtain ⟨f1, r1, n1, e1, l1⟩ := ask_fit k1 h.u0 r0 e0 (by omega) l0
    exact ⟨r1, n1.trans (n0.trans h.rn), h.nw, by show re2.epoch ≤ _; omega, l1, f1, f0, h.s0, h.s1⟩
theorem PS.J.tells {n T E : Int} {L : Lay} {es : List Ev} {a b : PS} {d : List Int} {q : List Bool} (h : a.J n T E) (k : PS.Tells L es a b d q) : b.J n T E := by
  obtain ⟨u0, d0, q0, u1, d1, q1, k0, k1, rfl, _, _⟩ := k
  exact ⟨h.ro, h.rn, h.nw, h.ep, h.la, h.u0.cycR k0, h.u1.cycR k1, h.s0, h.s1⟩
theorem PS.J.ends {n T E : Int} {a b : PS} {pts : List Pt} (h : a.J n T E) (k : PS.Ends { a with pts := pts } b) : b.J n T E := by
  obtain ⟨y, rfl, z0, z1, _, _⟩ := k
  exact ⟨h.ro, h.rn, h.nw, h.ep, h.la, h.u0, h.u1, z0, z1⟩
theorem PS.J.mild {n T E : Int} {ps : PS} (h : ps.J n T E) : OkTell ps :=
  ⟨⟨by have := h.u0.c; omega, by have := h.u0.l0; omega, by have := h.u0.l1; omega⟩, ⟨by have := h.u1.c; omega, by have := h.u1.l0; omega, by have := h.u1.l1; omega⟩⟩
theorem PS.J.new (L : Lay) : (PS.new L).J 0 0 0 :=
  ⟨St.new_ok, rfl, rfl, Int.le_refl _, Int.le_refl _, ⟨Int.le_refl _, Int.le_refl _, (show (0 : Int) ≤ 10 by omega), fun e => by have e' : (2 : Int) = 4 := e; omega, Int.le_refl _, Int.le_refl _⟩, ⟨Int.le_refl _, Int.le_refl _, (show (0 : Int) ≤ 10 by omega), fun e => by have e' : (2 : Int) = 4 := e; omega, Int.le_refl _, Int.le_refl _⟩, rfl, rfl⟩

/-- A pair between its cycles, the n-th being over. -/
def PS.Inv (n : Int) (ps : PS) : Prop := ps.J n n (2 * n)
/-- How a cycle's parts hang together. -/
structure PS.Run (L : Lay) (es : List Ev) (ps ps' : PS) (d : List Int) (q : List Bool) : Prop where
  run : ∃ ps4 ps5 ps6 pts', PS.Upto es ps ps4 ∧ PS.Asked es ps4 ps5 ∧ PS.Tells L es ps5 ps6 d q ∧ Stepped d ps6.pts pts' ∧ PS.Ends { ps6 with pts := pts' } ps'
theorem PS.J.upto {n T E : Int} {es : List Ev} {ps ps4 : PS} (h : ps.J n T E) (hn : n ≤ 20000) (k : PS.Upto es ps ps4) : ps4.J (n + 1) (T + 1) E := by
  obtain ⟨ps2, ps3, k1, k2, k3⟩ := k
  have j2 : ps2.J (n + 1) T E := PS.Fold.keep (P := fun x => x.J (n + 1) T E) (fun e a b ha hb => ha.hap hb) (h.next hn) k1
  exact PS.Fold.keep (P := fun x => x.J (n + 1) (T + 1) E) (fun e a b ha hb => ha.yl1 hb) (j2.ticked k2) k3
/-- The Cycle of a pair that keeps its invariant. -/
theorem cycle_inv {m : Nat → Nat} {w : World} {p a0 a1 r k f s : Nat} {L : Lay} {ps : PS} {n : Int} (v : Value) (es : List Ev) (hv : Sl (fun g => m g = 9) w v es.length (es.flatMap fEv)) (h : PairP m w p a0 a1 r k f s L ps) (ok : LayOk L) (hi : ps.Inv n) (n0 : 0 ≤ n) (n1 : n ≤ 5000) :
    Calls Tryz.prog 9 #[.pointer (some ⟨p, 0, none⟩), v] w fun x w' => ∃ v1 v2 m' ps' d q, x = .returned (.agg #[v1, v2]) ∧ OutAt (fun g => m' g = 9) w' (.agg #[v1, v2]) d q ∧
      Agree w m m' ∧ PairP m' w' p a0 a1 r k f s L ps' ∧ Ch (Mine m) w w' ∧ PS.Run L (es.take 8) ps ps' d q ∧ ps'.Inv (n + 1) ∧ d.length = L.pts.length ∧ q.length = L.sigs.length ∧ ∀ x ∈ d, 0 ≤ x ∧ x ≤ 2 := by
  have hj : ps.J n n (2 * n) := hi
  refine (pair_cycle v es (es.take 8) rfl hv h ok (by rw [hj.nw]; exact n0) (by rw [hj.nw]; omega) hj.ro (by rw [hj.rn, hj.nw]) ?_ ?_ ?_).mono ?_
  · intro ps2 h2
    have j2 : ps2.J (n + 1) n (2 * n) := PS.Fold.keep (P := fun x => x.J (n + 1) n (2 * n)) (fun e a b ha hb => ha.hap hb) (hj.next (by omega)) h2
    exact ⟨⟨j2.u0.t0, by have := j2.u0.t1; omega⟩, ⟨j2.u1.t0, by have := j2.u1.t1; omega⟩, by rw [j2.rn]; omega, by rw [j2.rn]; omega⟩
  · intro ps4 h4
    have j4 := hj.upto (by omega) h4
    exact ⟨⟨j4.u0.t0, by have := j4.u0.t1; omega⟩, ⟨j4.u1.t0, by have := j4.u1.t1; omega⟩, j4.ro.e0, by have := j4.ep; omega⟩
  · intro ps4 ps5 h4 h5
    exact ((hj.upto (by omega) h4).asked (by omega) h5).mild
  · rintro x w' ⟨v1, v2, m', ps', ps4, ps5, ps6, d, q, pts', rfl, ho, ha, hp, hc, k4, kn, k5, k6, k7, k8⟩
    have j5 := (hj.upto (by omega) k4).asked (by omega) k5
    have j8 := (j5.tells k6).ends k8
    have hr := k6.rng
    refine ⟨v1, v2, m', ps', d, q, rfl, ho, ha, hp, hc, ⟨ps4, ps5, ps6, pts', k4, k5, k6, k7, k8⟩, ?_, hr.1, hr.2.1, hr.2.2⟩
    have e : 2 * n + 2 = 2 * (n + 1) := by omega
    show ps'.J (n + 1) (n + 1) (2 * (n + 1))
    rw [← e]; exact j8
end Go.Proofs.YtkplgggdidhnoaaGreatDoor

namespace Go.Proofs.YtkplgggdidhnoaaGreatDoor
open Go.ChangeShapes Go.WideShapes Go.ChangeAt Go.RowKit
set_option linter.unusedVariables false

def one : Lay := ⟨[⟨#[97]⟩], [], [⟨#[115]⟩, ⟨#[116]⟩], [⟨⟨#[114]⟩, 0, 1, [0], [], []⟩]⟩

theorem one_ok : LayOk one := by
  have nm : ∀ s : ByteArray, s = ⟨#[97]⟩ ∨ s = ⟨#[115]⟩ ∨ s = ⟨#[116]⟩ ∨ s = ⟨#[114]⟩ → NameOk s ∧ (s.toList == [115, 101, 116]) = false ∧ (s.toList == [102, 108, 97, 110, 107]) = false := by
    rintro s (rfl | rfl | rfl | rfl)
    all_goals exact ⟨⟨by kernel_rfl, by decide +kernel, by decide +kernel⟩, by kernel_rfl, by kernel_rfl⟩
  refine ⟨by decide, by decide, by decide, by decide, by decide, by decide, ?_, ?_, ?_, ?_, ?_, ?_⟩
  · intro p hp; simp [one] at hp
  · intro r hr
    simp only [one, List.mem_cons, List.not_mem_nil, or_false] at hr
    subst hr
    refine ⟨by decide, by decide, by decide, by decide, by decide, ⟨?_, ?_, by decide, by decide⟩, ⟨by simp, by simp⟩, ⟨by simp, by simp⟩, by decide⟩
    · intro x hx
      simp only [List.mem_cons, List.not_mem_nil, or_false] at hx
      subst hx
      exact ⟨by decide, by decide⟩
    · intro i j hi hj hij
      simp at hi hj
      omega
  · refine ⟨fun s hs => nm s ?_, fun i j hi hj hij => ?_⟩
    · simp only [one, List.mem_cons, List.not_mem_nil, or_false] at hs; exact .inl hs
    · simp [one] at hi hj; omega
  · refine ⟨fun s hs => nm s ?_, fun i j hi hj hij => ?_⟩
    · simp only [one, List.mem_cons, List.not_mem_nil, or_false] at hs
      rcases hs with h | h
      · exact .inr (.inl h)
      · exact .inr (.inr (.inl h))
    · have h1 : i = 0 := by simp [one] at hi hj; omega
      have h2 : j = 1 := by simp [one] at hi hj; omega
      subst h1 h2
      show ((⟨#[116]⟩ : ByteArray).toList == (⟨#[115]⟩ : ByteArray).toList) = false
      kernel_rfl
  · refine ⟨fun s hs => ?_, fun i j hi hj hij => ?_⟩
    · simp [one] at hs
    · simp [one] at hi
  · refine ⟨fun s hs => nm s ?_, fun i j hi hj hij => ?_⟩
    · simp [one] at hs; exact .inr (.inr (.inr hs))
    · simp [one] at hi hj; omega

set_option maxHeartbeats 2000000 in
theorem one_lay (w : World) : Calls Tryz.prog 38 #[] w fun r w' => ∃ v, r = .returned v ∧ LayAt (New w.heap.size) w' v one ∧ Ch Noone w w' := by
  go_enter Tryz.func38, Tryz.ntmps38
  go_wp2_with fail
  (try simp only [Exit.inBlock, Exit.then])
  generalize hW : ((((w.alloc (.cells #[.slice (some ⟨w.heap.size + 1, 0, none⟩) 1 1, .slice none 0 0, .slice (some ⟨w.heap.size + 1 + 1, 0, none⟩) 2 2, .slice (some ⟨w.heap.size + 1 + 1 + 1 + 1, 0, none⟩) 1 1] 26)).alloc
    (.cells #[.string ⟨#[97]⟩] 9)).alloc (.cells #[.string ⟨#[115]⟩, .string ⟨#[116]⟩] 9)).alloc (.cells #[.int .i64 0] 3)).alloc (.cells #[.string ⟨#[114]⟩, .int .i64 0, .int .i64 1, .slice (some ⟨w.heap.size + 1 + 1 + 1, 0, none⟩) 1 1, .slice none 0 0, .slice none 0 0] 54) = W
  have hB0 : Blk W w.heap.size 26 #[.slice (some ⟨w.heap.size + 1, 0, none⟩) 1 1, .slice none 0 0, .slice (some ⟨w.heap.size + 1 + 1, 0, none⟩) 2 2, .slice (some ⟨w.heap.size + 1 + 1 + 1 + 1, 0, none⟩) 1 1] := by
    rw [← hW]; exact ((((Blk.new _ _ _).alloc _).alloc _).alloc _).alloc _
  have hB1 : Blk W (w.heap.size + 1) 9 #[.string ⟨#[97]⟩] := by rw [← hW]; exact (((Blk.newk _ _ (by simp) _ _).alloc _).alloc _).alloc _
  have hB2 : Blk W (w.heap.size + 1 + 1) 9 #[.string ⟨#[115]⟩, .string ⟨#[116]⟩] := by rw [← hW]; exact ((Blk.newk _ _ (by simp) _ _).alloc _).alloc _
  have hB3 : Blk W (w.heap.size + 1 + 1 + 1) 3 #[.int .i64 0] := by rw [← hW]; exact (Blk.newk _ _ (by simp) _ _).alloc _
  have hB4 : Blk W (w.heap.size + 1 + 1 + 1 + 1) 54 #[.string ⟨#[114]⟩, .int .i64 0, .int .i64 1, .slice (some ⟨w.heap.size + 1 + 1 + 1, 0, none⟩) 1 1, .slice none 0 0, .slice none 0 0] := by rw [← hW]; exact Blk.newk _ _ (by simp) _ _
  have cW : Ch Noone w W := by rw [← hW]; exact (((((Ch.refl _ _).alloc _).alloc _).alloc _).alloc _).alloc _
  clear hW
  refine bodyPost_ret (results_cell_row (P := Tryz.prog) rfl _ _ w.heap.size _ _ _ _ rfl hB0 Tryz.underlying26 rfl (by kernel_rfl)) rfl ?_
  have sl1 : ∀ (b : Nat) (T : TypeId) (n : Nat) (vs : List Value), w.heap.size ≤ b → n ≤ 2 → Blk W b T vs.toArray → Sl (New w.heap.size) W (.slice (some ⟨b, 0, none⟩) n n) n vs := fun b T n vs hb hn h =>
    ⟨_, _, rfl, Nat.le_refl _, by omega, (fun h => by cases h), fun _ => ⟨b, 0, rfl, hb, h.lt, fun i hi => by rw [Nat.zero_add, h.cell i]; simp⟩⟩
  refine ⟨_, rfl, ⟨_, _, _, _, [(⟨⟨#[114]⟩, 0, 1, [0], [], []⟩, .slice (some ⟨w.heap.size + 1 + 1 + 1, 0, none⟩) 1 1, .slice none 0 0, .slice none 0 0)], rfl, ?_, ?_, ?_, rfl, ?_, ?_⟩, cW⟩
  · exact sl1 _ _ 1 _ (by omega) (by omega) hB1
  · exact Sl.nil _ _
  · exact sl1 _ _ 2 _ (by omega) (by omega) hB2
  · exact sl1 _ _ 1 _ (by omega) (by omega) hB4
  · intro x hx
    simp only [List.mem_cons, List.not_mem_nil, or_false] at hx
    subst hx
    exact ⟨sl1 _ _ 1 _ (by omega) (by omega) hB3, Sl.nil _ _, Sl.nil _ _⟩

theorem fold_nil {R : Ev → PS → PS → Prop} {a b : PS} (h : PS.Fold R [] a b) : b = a := h
theorem heard_nil {u u' : US} (h : US.HearR [] u u') : u' = u := h.2 rfl
/-- A cycle of no events, where nothing came. -/
theorem nil_upto {ps ps4 : PS} (h : PS.Upto [] ps ps4) (h0 : ps.ln.c0 = []) (h1 : ps.ln.c1 = []) : ps4 = ps.next.ticked [] := by
  obtain ⟨ps2, ps3, k1, ⟨x0, x1, e0, e1, rfl⟩, k3⟩ := h
  rw [fold_nil k3]
  have e := fold_nil k1
  subst e
  have r0 : x0 = ps.next.u0.tk false := e0.2 h0
  have r1 : x1 = ps.next.u1.tk false := e1.2 h1
  subst r0 r1
  have hl : ((ps.next.ln.take 0).take 1) = ps.next.ln := by
    obtain ⟨u0, u1, re, ⟨s0, s1, c0, c1⟩, oc, pts, now⟩ := ps
    have h0' : c0 = [] := h0
    have h1' : c1 = [] := h1
    subst h0' h1'
    rfl
  rw [hl]
  rfl
theorem new_upto {L : Lay} {ps4 : PS} (h : PS.Upto [] (PS.new L) ps4) : ps4 = (PS.new L).next.ticked [] := nil_upto h rfl rfl
theorem new_asked {L : Lay} {ps5 : PS} (h : PS.Asked [] ((PS.new L).next.ticked []) ps5) : (∃ r, ps5.u0 = ⟨4, 1, 0, 10, 1, 6, true, none, r⟩) ∧ (∃ r, ps5.u1 = ⟨2, 1, 0, 0, 0, 0, false, none, r⟩) ∧ ps5.re.con = -1 := by
  have hd : ((PS.new L).next.ticked []).now = 1 := rfl
  unfold PS.Asked at h
  rw [hd, if_pos (by decide)] at h
  obtain ⟨u0', re1, u1', re2, h0, h1, rfl⟩ := h
  obtain ⟨r, hr⟩ : ∃ r, List.replicate L.routes.length RS.idle = r := ⟨_, rfl⟩
  have e0 : ((PS.new L).next.ticked []).u0 = ⟨2, 1, 0, 0, 0, 0, false, none, r⟩ := by rw [← hr]; rfl
  have e1 : ((PS.new L).next.ticked []).u1 = ⟨2, 1, 0, 0, 0, 0, false, none, r⟩ := by rw [← hr]; rfl
  have er : ((PS.new L).next.ticked []).re = ⟨1, -1, -1, 0, 0, 0, 0⟩ := rfl
  rw [e0, er] at h0
  rw [e1] at h1
  rcases h0 with ⟨h, _⟩ | ⟨_, _, hre, hg⟩
  · rcases h with h | ⟨h, _⟩
    · simp at h
    · exact absurd rfl h
  · have hre' : re1 = ⟨1, 0, -1, 1, 0, 1, 0⟩ := hre
    have hu0 : ∃ r, u0' = ⟨4, 1, 0, 10, 1, 6, true, none, r⟩ := by
      rcases hg with ⟨_, hg⟩ | ⟨hg, _⟩
      · have hg' : US.Given ⟨2, 1, 0, 0, 0, 0, false, none, r⟩ 1 0 u0' := hg
        rcases hg' with ⟨h, _⟩ | ⟨_, u, hu, rfl⟩ | ⟨_, h, _⟩
        · exact absurd h (show ¬ US.works ⟨2, 1, 0, 0, 0, 0, false, none, r⟩ = true from by simp [US.works])
        · rcases hu with rfl | ⟨_, h, _⟩
          · exact ⟨_, rfl⟩
          · exact absurd rfl h
        · exact absurd rfl h
      · exact absurd rfl hg
    rw [hre'] at h1
    rcases h1 with ⟨h, _⟩ | ⟨_, _, hre2, hg2⟩
    · rcases h with h | ⟨h, _⟩
      · simp at h
      · exact absurd rfl h
    · have hre2' : re2 = ⟨1, 0, -1, 1, 0, 1, 0⟩ := hre2
      rcases hg2 with ⟨h, _⟩ | ⟨_, hu1⟩
      · exact absurd h (show ¬ (8 : Int) = 0 from by decide)
      · exact ⟨hu0, ⟨r, hu1⟩, by rw [hre2']⟩

theorem Run.re {L : Lay} {es : List Ev} {ps ps' : PS} {d : List Int} {q : List Bool} (h : PS.Run L es ps ps' d q) : ∃ ps4 ps5, PS.Upto es ps ps4 ∧ PS.Asked es ps4 ps5 ∧ ps'.re = ps5.re := by
  obtain ⟨ps4, ps5, ps6, pts', k4, k5, ⟨_, _, _, _, _, _, _, _, rfl, _, _⟩, _, y, rfl, _⟩ := h.run
  exact ⟨ps4, ps5, k4, k5, rfl⟩
theorem known_cyc {m : Nat → Nat} {w : World} {p a0 a1 r k f s : Nat} {L : Lay} (h : PairP m w p a0 a1 r k f s L (PS.new L)) (ok : LayOk L) :
    Calls Tryz.prog 9 #[.pointer (some ⟨p, 0, none⟩), .slice none 0 0] w fun x w' => ∃ v1 v2 m' ps', x = .returned (.agg #[v1, v2]) ∧ PairP m' w' p a0 a1 r k f s L ps' ∧ Ch (Mine m) w w' ∧ ps'.re.con = -1 ∧ ps'.now = 1 := by
  refine (cycle_inv (.slice none 0 0) [] (Sl.nil _ _) h ok (PS.J.new L) (by omega) (by omega)).mono ?_
  rintro x w' ⟨v1, v2, m', ps', d, q, rfl, _, _, hp, hc, hr, hi, _⟩
  obtain ⟨ps4, ps5, k4, k5, e⟩ := Run.re hr
  rw [new_upto k4] at k5
  exact ⟨v1, v2, m', ps', rfl, hp, hc, by rw [e]; exact (new_asked k5).2.2, hi.nw⟩

set_option maxHeartbeats 2000000 in
theorem known_yes (w : World) (hT : Tabs w) : Calls Tryz.prog 13 #[] w fun r w' => r = .returned (.bool true) ∧ Ch Noone w w' := by
  have HT := Lib.hid hT
  clear hT
  go_enter Tryz.func13, Tryz.ntmps13
  go_wp2_with fail
  refine (one_lay w).mono ?_
  rintro e w1 ⟨v, rfl, hl, c1⟩
  have HL := Lib.hid hl; clear hl
  go_wp2_with fail
  refine (pair_new _ w1 v one HL.out one_ok (HT.out.ch0 c1)).mono ?_
  rintro e w2 ⟨m, p, a0, a1, r, k, f, s, rfl, hp, hm, c2⟩
  have HP := Lib.hid hp
  have HM := Lib.hid hm
  clear hp hm
  go_wp2_with fail
  refine (known_cyc HP.out one_ok).mono ?_
  rintro e w3 ⟨v1, v2, m3, ps3, rfl, hp3, c3, hcon, hnow⟩
  have HP3 := Lib.hid hp3
  have HCo := Lib.hid (pair_con hp3)
  have HNo := Lib.hid (pair_now hp3)
  rw [hcon] at HCo
  rw [hnow] at HNo
  have C3 : Hid (Ch Noone w w3) := (c1.trans c2).then c3 fun g hg h => by
    have h' : m g ≤ 6 := h
    have := HM.out g (Nat.lt_of_lt_of_le hg c1.size)
    omega
  clear hp3 hcon hnow
  go_wp2_with fail
  refine HCo.out.mono ?_
  rintro e w4 ⟨rfl, rfl⟩
  go_wp2_with fail
  refine HNo.out.mono ?_
  rintro e w5 ⟨rfl, rfl⟩
  go_wp2_with fail
  go_ret
  exact ⟨rfl, C3.out⟩
end Go.Proofs.YtkplgggdidhnoaaGreatDoor

namespace Go.Proofs.YtkplgggdidhnoaaGreatDoor
open Go.ChangeShapes Go.WideShapes Go.ChangeAt Go.RowKit
set_option linter.unusedVariables false

/-- The unit 'last' was connected last, in cycle t. -/
structure Gap (t last : Int) (s : St) : Prop where
  k : last < 0 ∨ s.own = last ∨ (s.own = -1 ∧ t + 3 ≤ s.free) ∨ (s.own ≠ -1 ∧ s.own ≠ last ∧ t + 3 ≤ s.now)
  c : s.con = -1 ∨ s.con = s.own
theorem Gap.begin {t last n : Int} {s : St} (h : Gap t last s) (h1 : s.now < n) (h2 : n ≤ 1099511627776) (ht : t ≤ s.now) : Gap t last (s.begin n) := by
  obtain ⟨k, c⟩ := h
  unfold St.begin
  rw [if_neg (by omega)]
  split
  · exact ⟨.inr (.inr (.inl ⟨rfl, by show t + 3 ≤ n + 2; omega⟩)), .inl rfl⟩
  · refine ⟨?_, .inl rfl⟩
    show last < 0 ∨ s.own = last ∨ (s.own = -1 ∧ t + 3 ≤ s.free) ∨ (s.own ≠ -1 ∧ s.own ≠ last ∧ t + 3 ≤ n)
    omega
theorem Gap.yield {t last u : Int} {s : St} (h : Gap t last s) (ht : t + 1 ≤ s.now) : Gap t last (s.yield u).1 := by
  unfold St.yield
  split
  · exact h
  · exact ⟨.inr (.inr (.inl ⟨rfl, by show t + 3 ≤ s.now + 2; omega⟩)), .inl rfl⟩
theorem Gap.ask {t last u c : Int} {s : St} (h : Gap t last s) : Gap t last (s.ask u c).1 := by
  obtain ⟨k, kc⟩ := h
  unfold St.ask
  split
  · exact ⟨k, kc⟩
  · split
    · refine ⟨k, .inr ?_⟩
      show u = s.own
      omega
    · split
      · refine ⟨?_, ?_⟩
        · show last < 0 ∨ u = last ∨ (u = -1 ∧ t + 3 ≤ s.free) ∨ (u ≠ -1 ∧ u ≠ last ∧ t + 3 ≤ s.now)
          omega
        · show s.con = -1 ∨ s.con = u
          omega
      · exact ⟨k, kc⟩
theorem ask_gap {t last : Int} {u u' : US} {re re' : St} {i : Int} {d : Bool} (k : AskRel u re i d u' re') (h : Gap t last re) : Gap t last re' := by
  rcases k with ⟨_, _, rfl⟩ | ⟨_, _, rfl, _⟩
  · exact h
  · exact h.ask
theorem yl1_re {e : Ev} {a b : PS} (k : PS.Yl1 e a b) : b.re = a.re ∨ ∃ u, b.re = (a.re.yield u).1 := by
  unfold PS.Yl1 at k
  split at k
  · subst k
    dsimp only
    split
    · exact .inr ⟨0, rfl⟩
    · exact .inl rfl
  · split at k
    · subst k
      dsimp only
      split
      · exact .inr ⟨1, rfl⟩
      · exact .inl rfl
    · subst k; exact .inl rfl
theorem gap_upto {t last n : Int} {es : List Ev} {ps ps4 : PS} (hi : ps.Inv n) (n0 : 0 ≤ n) (n1 : n ≤ 5000) (h : Gap t last ps.re) (ht : t ≤ n) (k : PS.Upto es ps ps4) : Gap t last ps4.re ∧ ps4.re.now = n + 1 := by
  have hj : ps.J n n (2 * n) := hi
  obtain ⟨ps2, ps3, k1, k2, k3⟩ := k
  have g1 : Gap t last ps.next.re ∧ ps.next.re.now = n + 1 := by
    refine ⟨h.begin (by rw [hj.rn, hj.nw]; omega) (by rw [hj.nw]; omega) (by rw [hj.rn]; exact ht), ?_⟩
    exact (hj.next (by omega)).rn
  have g2 : Gap t last ps2.re ∧ ps2.re.now = n + 1 := by rw [(hap_keep k1).1]; exact g1
  have g3 : Gap t last ps3.re ∧ ps3.re.now = n + 1 := by
    obtain ⟨x0, x1, _, _, rfl⟩ := k2
    exact g2
  exact PS.Fold.keep (P := fun x => Gap t last x.re ∧ x.re.now = n + 1) (fun e a b ha hb => by
    rcases yl1_re hb with h | ⟨u, h⟩
    · rw [h]; exact ha
    · rw [h]; exact ⟨ha.1.yield (by rw [ha.2]; omega), by rw [(St.yield_parts _ _).1]; exact ha.2⟩) g3 k3
theorem gap_asked {t last : Int} {es : List Ev} {a b : PS} (h : Gap t last a.re) (k : PS.Asked es a b) : Gap t last b.re := by
  unfold PS.Asked at k
  split at k
  · obtain ⟨_, _, _, _, k0, k1, rfl⟩ := k
    exact ask_gap k1 (ask_gap k0 h)
  · obtain ⟨_, _, _, _, k0, k1, rfl⟩ := k
    exact ask_gap k1 (ask_gap k0 h)
theorem gap_run {t last n : Int} {L : Lay} {es : List Ev} {ps ps' : PS} {d : List Int} {q : List Bool} (hi : ps.Inv n) (n0 : 0 ≤ n) (n1 : n ≤ 5000) (h : Gap t last ps.re) (ht : t ≤ n) (k : PS.Run L es ps ps' d q) : Gap t last ps'.re := by
  obtain ⟨ps4, ps5, k4, k5, e⟩ := Run.re k
  rw [e]
  exact gap_asked (gap_upto hi n0 n1 h ht k4).1 k5
/-- Where none is connected the field is told nothing. -/
theorem run_quiet {L : Lay} {es : List Ev} {ps ps' : PS} {d : List Int} {q : List Bool} (k : PS.Run L es ps ps' d q) (hc : ps'.re.con = -1) : (∀ x ∈ d, x = 0) ∧ ∀ x ∈ q, x = false := by
  obtain ⟨ps4, ps5, ps6, pts', k4, k5, ⟨_, _, _, _, _, _, _, _, rfl, rfl, rfl⟩, _, y, rfl, _⟩ := k.run
  have hc' : ps5.re.con = -1 := hc
  rw [hc', if_neg (by decide), if_neg (by decide), if_neg (by decide), if_neg (by decide)]
  exact ⟨fun x hx => List.eq_of_mem_replicate hx, fun x hx => List.eq_of_mem_replicate hx⟩
/-- What the law looks at, behind a cycle. -/
theorem gap_next {t last n : Int} {s : St} (ro : s.Ok) (rn : s.now = n + 1) (h : Gap t last s) (hl : -1 ≤ last) :
    -1 ≤ s.con ∧ s.con ≤ 1 ∧ (0 ≤ s.con → (0 ≤ last → s.con ≠ last → 2 ≤ n - t) ∧ Gap (n + 1) s.con s) ∧ (s.con < 0 → s.con = -1) := by
  obtain ⟨k, c⟩ := h
  have h0 := ro.o0
  have h1 := ro.o1
  refine ⟨by omega, by omega, fun hc => ⟨fun h2 h3 => by omega, ⟨.inr (.inl (by omega)), c⟩⟩, fun hc => by omega⟩
theorem gap_new (L : Lay) : Gap 0 (-1) (PS.new L).re := ⟨.inl (by decide), .inl rfl⟩
end Go.Proofs.YtkplgggdidhnoaaGreatDoor
