/-
  The contracts of unit: isOld, Hear of any bytes. Conditions: sizes. unit.cycle: the Lock's Cycle of an Active unit. Conditions: sizes.
-/
import Derived.Test.YtkplgggdidhnoaaGreatDoorM14
import Derived.Test.YtkplgggdidhnoaaGreatDoorM29
import Derived.Test.YtkplgggdidhnoaaGreatDoorM30
import Derived.Test.YtkplgggdidhnoaaGreatDoorM24
import Derived.Test.YtkplgggdidhnoaaGreatDoorM26
namespace Go.Proofs.YtkplgggdidhnoaaGreatDoor
open Go.ChangeShapes Go.WideShapes Go.ChangeAt Go.RowKit
set_option linter.unusedVariables false

set_option maxRecDepth 100000 in
set_option maxHeartbeats 4000000 in
theorem unit_isOld (O : Nat → Prop) (w : World) (b : Nat) (L : Lay) (us : US) (rs : List RS) (ep ct : Int) (a : Option Addr) (len cap : Nat) (h : UnitAt O w b L us rs) :
    Calls Tryz.prog 59 #[.pointer (some ⟨b, 0, none⟩), .agg #[.int .i64 ep, .int .i64 ct, .slice a len cap]] w fun r w' => (∃ t : Bool, r = .returned (.bool t)) ∧ Ch Noone w w' := by
  obtain ⟨m, bl, be, vc, h⟩ := h
  obtain ⟨w0, hw0⟩ : ∃ w0, w0 = w.alloc (.cells #[.int .i64 ep, .int .i64 ct, .slice a len cap] 122) := ⟨_, rfl⟩
  have c0 : Ch Noone w w0 := by rw [hw0]; exact (Ch.refl _ _).alloc _
  have bx : Blk w0 w.heap.size 122 #[.int .i64 ep, .int .i64 ct, .slice a len cap] := by rw [hw0]; exact Blk.new _ _ _
  have z0 : w0.cell? ⟨w.heap.size, 0, none⟩ = some (.int .i64 ep) := bx.cell 0
  have z1 : w0.cell? ⟨w.heap.size, 1, none⟩ = some (.int .i64 ct) := bx.cell 1
  have l2 := h.blk.cells7.2.2.1
  have hb := h.blk.lt
  have hcp := h.copy.ch c0 (fun _ _ _ h => h)
  have C0 := Lib.hid c0
  have HW0 := Lib.hid hw0
  clear hw0 c0 bx h
  rcases hcc : us.cp with _ | ⟨e, n, xs⟩
  · rw [hcc] at hcp
    have hv : vc = .pointer none := hcp
    rw [hv] at l2
    clear hcp hv hcc
    go_enter Tryz.func59, Tryz.ntmps59
    go_wp2_with fail
    rw [← HW0.out]
    go_quiet (fail)
    go_wp2_with fail
    go_ret
    exact ⟨⟨_, rfl⟩, C0.out.drewN _⟩
  · rw [hcc] at hcp
    obtain ⟨bm, um, rfl, -, kb, -, -⟩ := hcp
    have y0 : w0.cell? ⟨bm, 0, none⟩ = some (.int .i64 e) := kb.cell 0
    have y1 : w0.cell? ⟨bm, 1, none⟩ = some (.int .i64 n) := kb.cell 1
    clear kb hcc
    cases g1 : decide (ep < e)
    · cases g2 : (ep == e)
      · go_enter Tryz.func59, Tryz.ntmps59
        go_wp2_with fail
        rw [← HW0.out]
        go_quiet (fail)
        go_wp2_with fail
        go_ret
        exact ⟨⟨_, rfl⟩, C0.out.drewN _⟩
      · go_enter Tryz.func59, Tryz.ntmps59
        go_wp2_with fail
        rw [← HW0.out]
        go_quiet (fail)
        go_wp2_with fail
        go_ret
        exact ⟨⟨_, rfl⟩, C0.out.drewN _⟩
    · go_enter Tryz.func59, Tryz.ntmps59
      go_wp2_with fail
      rw [← HW0.out]
      go_quiet (fail)
      go_wp2_with fail
      go_ret
      exact ⟨⟨_, rfl⟩, C0.out.drewN _⟩

/-- How a unit stands that has heard. -/
def US.Heard (us us' : US) : Prop := us' = us ∨ (us.mode = 2 ∧ ∃ c r, us' = { us with cp := c, rs := r })

set_option maxRecDepth 100000 in
set_option maxHeartbeats 4000000 in
theorem unit_hear_any (O B : Nat → Prop) (w : World) (b : Nat) (L : Lay) (us : US) (rs : List RS) (v : Value) (n : Nat) (vs : List Value) (h : UnitAt O w b L us rs) (ok : LayOk L) (hv : SlB B w v n vs) (hn : n ≤ 60000) (hB : ∀ g, B g → g < w.heap.size) :
    Calls Tryz.prog 30 #[.pointer (some ⟨b, 0, none⟩), v] w fun r w' => r = .returned (.tuple #[]) ∧ (∃ us' rs', us.Heard us' ∧ rs'.length = rs.length ∧ UnitAt (Gr O w) w' b L us' rs') ∧ Ch O w w' := by
  by_cases h2 : us.mode = 2
  · have HUn := Lib.hid (unpack_any B w v n vs hv hn hB)
    obtain ⟨a, c, rfl, -, -, -, -⟩ := hv.sl
    have OK := Lib.hid ok
    clear ok hv hB hn
    obtain ⟨m, bl, be, vc, h⟩ := h
    have HU := Lib.hid h
    have l3 := h.blk.cells7.2.2.2.1
    rw [h2] at l3
    have H2 := Lib.hid h2
    have HStay : Hid (∀ w', Ch Noone w w' → (∃ us' rs', us.Heard us' ∧ rs'.length = rs.length ∧ UnitAt (Gr O w) w' b L us' rs') ∧ Ch O w w') := fun w' cc =>
      ⟨⟨us, rs, .inl rfl, rfl, ⟨m, bl, be, vc, (HU.out.ch cc (fun _ _ _ h => h)).mono fun g hg _ => .inl hg⟩⟩, cc.mono fun _ _ h => h.elim⟩
    clear h2 h
    go_enter Tryz.func30, Tryz.ntmps30
    go_wp2_with fail
    refine HUn.out.mono ?_
    rintro e w1 ⟨p, er, rfl, hcr, c1⟩
    have C1 := Lib.hid c1
    clear c1
    by_cases he : er = 0
    · obtain ⟨bc, items, rfl, hci⟩ := hcr he
      have HRd := Lib.hid (read_any _ w1 bc items hci)
      subst he
      clear hcr hci
      go_wp2_with fail
      refine HRd.out.mono ?_
      rintro e w2 ⟨ep, ct, v', l, okr, rfl, hl, hol, c2⟩
      obtain ⟨la, lc, rfl, -, -, -, -⟩ := hol.sl
      have HL := Lib.hid hl
      have HOL := Lib.hid hol
      have C2 := Lib.hid (C1.out.trans c2)
      have Z2 : Hid (w.heap.size ≤ w1.heap.size) := C1.out.size
      have HW12 : Hid (w1.heap.size ≤ w2.heap.size) := c2.size
      clear hol hl c2
      cases okr
      · go_wp2_with fail
        (try simp only [Exit.inBlock, Exit.then])
        refine bodyPost_ret (results_none rfl _ _ _) rfl ?_
        exact ⟨rfl, HStay.out _ (C2.out.alloc _)⟩
      · go_wp2_with fail
        have C3 : Hid (Ch Noone w (w2.alloc (.cells #[.int .i64 ep, .int .i64 ct, .slice la l.length lc] 122))) := C2.out.alloc _
        have X3 : Hid (Blk (w2.alloc (.cells #[.int .i64 ep, .int .i64 ct, .slice la l.length lc] 122)) w2.heap.size 122 #[.int .i64 ep, .int .i64 ct, .slice la l.length lc]) := Blk.new _ _ _
        refine (unit_isOld O _ b L us rs ep ct la l.length lc ⟨m, bl, be, vc, HU.out.ch C3.out (fun _ _ _ h => h)⟩).mono ?_
        rintro e w4 ⟨⟨told, rfl⟩, c4⟩
        have C4 := Lib.hid (C3.out.trans c4)
        have X4 := Lib.hid (c4.blk X3.out (fun h => h))
        have HOL4 := Lib.hid (HOL.out.ch (S := Noone) (((Ch.refl _ _).alloc _).trans c4) (fun _ _ _ h => h))
        have Z4 : Hid (w2.heap.size < w4.heap.size) := by have := c4.size; have := X4.out.lt; exact this
        clear c4
        cases told
        · have h4 := HU.out.ch C4.out (fun _ _ _ h => h)
          have l0 := h4.blk.cells7.1
          have HL4 := Lib.hid h4.lock
          clear h4
          go_wp2_with fail
          refine (lock_routes _ _ _ _ _ HL4.out OK.out).mono ?_
          rintro e w5 ⟨vw, rfl, hw5, c5⟩
          obtain ⟨wa, wc, rfl, -, -, -, -⟩ := hw5.sl
          have C5 := Lib.hid (C4.out.trans c5)
          have HW5 := Lib.hid hw5
          have X5 := Lib.hid (c5.blk X4.out (fun h => h))
          have HOL5 := Lib.hid (HOL4.out.ch (S := Noone) c5 (fun _ _ _ h => h))
          have Z5 : Hid (w2.heap.size < w5.heap.size) := Nat.lt_of_lt_of_le Z4.out c5.size
          have Z45 : Hid (w4.heap.size ≤ w5.heap.size) := c5.size
          have H5 := Lib.hid ((HU.out.relabel 3).ch C5.out (fun _ _ _ h => h))
          have HRl : Hid (rs.length ≤ 100) := by have h1 := OK.out.r1; have h2 := HU.out.lock.2.1.len; show _ ≤ _; omega
          have HBl : Hid (bl < w.heap.size) := HU.out.lock.lt
          have HSL : Hid (∀ (w6 : World), ∀ {Q : Nat → Prop}, (∀ g, w1.heap.size ≤ g → g < w5.heap.size → Q g) → Ch (fun g => g = bl) w5 w6 → Sl Q w6 (.slice la l.length lc) l.length (l.flatMap fRS)) := fun w6 Q hq c =>
            ((HOL5.out.sl.mono (B' := fun g => w1.heap.size ≤ g ∧ g < w5.heap.size) fun g hg hl => ⟨hg, hl⟩).ch c (fun g hg _ e => by have h1 := HBl.out; have h2 := Z2.out; have h3 := hg.1; omega)).mono fun g hg _ => hq g hg.1 hg.2
          clear hw5 c5 l0
          have l0 := H5.out.blk.cells7.1
          go_wp2_with fail
          refine (lock_set_any _ (New w1.heap.size) _ bl L rs l H5.out.lock OK.out _ HOL5.out.sl HL.out).mono ?_
          rintro e w6 ⟨t6, rfl, h6, c6⟩
          have H6 := Lib.hid (H5.out.stepLock h6 c6 (fun g e _ => e ▸ H5.out.lock.1))
          have C6 := Lib.hid c6
          have HWas : Hid (∀ w', Ch (fun g => g = bl ∨ g = b) w5 w' → Sl (New w.heap.size) w' (.slice wa rs.length wc) rs.length (rs.flatMap fRS)) := fun w' c => by
            have h := (HW5.out.sl.ch c (fun g (hg : _ ≤ g) _ e => by have h1 := HBl.out; have h2 := HU.out.blk.lt; have h3 := C4.out.size; rcases e with e | e <;> omega))
            exact h.mono fun g (hg : _ ≤ g) _ => Nat.le_trans C4.out.size hg
          clear h6 c6 l0
          have l0 := H6.out.blk.cells7.1
          have l2 := H6.out.blk.cells7.2.2.1
          have f2 := H6.out.blk.free 2
          cases t6
          · go_wp2_with fail
            have HA := H6
            have HCW : Hid (Ch (fun g => g = bl ∨ g = b) w5 w6) := C6.out.mono fun _ _ h => .inl h
            have HSZ : Hid (w5.heap.size ≤ w6.heap.size) := C6.out.size
            have CF : Hid (Ch O w w6) := (C5.out.mono fun _ _ h => h.elim).then C6.out fun g hl e => e ▸ HU.out.lock.1.1
            refine (lock_set_any _ (New w.heap.size) _ bl L _ rs HA.out.lock OK.out _ (HWas.out _ HCW.out) HRl.out).mono ?_
            rintro e w7 ⟨t7, rfl, h7, c7⟩
            have H8 := Lib.hid (HA.out.stepLock h7 c7 (fun g e _ => e ▸ HA.out.lock.1))
            have C7 := Lib.hid c7
            clear h7 c7
            go_wp2_with fail
            go_end0
            have hlen := H8.out.lock.2.1.len
            have hlen0 := HU.out.lock.2.1.len
            refine ⟨rfl, ⟨_, _, .inr ⟨H2.out, _, _, rfl⟩, by rw [hlen, hlen0], _, bl, be, _, H8.out.mono fun g hg _ => ?_⟩, ?_⟩
            · exact Gr.gr C5.out.size _ (Gr.gr HSZ.out _ hg)
            · exact CF.out.then C7.out fun g hl e => e ▸ HU.out.lock.1.1
          · go_wp2_with fail
            have cs : Ch (fun g => g = b) w6 (w6.setCell ⟨b, 2, none⟩ (.pointer (some ⟨w2.heap.size, 0, none⟩))) := (Ch.refl _ _).set1 _ _
            have hX6 := C6.out.blk X5.out (fun e => by have h1 := HBl.out; have h2 := C2.out.size; omega)
            have hS6 := HOL5.out.sl.ch C6.out (fun g (hg : _ ≤ g) _ e => by have h1 := HBl.out; have h2 := Z2.out; omega)
            have hlab : ∀ g, w1.heap.size ≤ g → g < w5.heap.size → Gr (Gr O w) w5 g ∧ lab (lab m w.heap.size 3) w5.heap.size 1 g = 3 := fun g h1 h2 => ⟨.inl (.inr (Nat.le_trans Z2.out h1)), (lab_lt h2).trans (lab_ge (Nat.le_trans Z2.out h1))⟩
            have HA := Lib.hid (H6.out.own (us' := { us with cp := some (ep, ct, l), rs := if True then l else rs }) (by have := H6.out.blk.set 2 (.pointer (some ⟨w2.heap.size, 0, none⟩)); simpa using this) cs (fun g hg _ => .inl hg) H6.out.oe H6.out.me (Blk.other H6.out.lease H6.out.ne _ _)
              (show CopyAt (fun g => Gr (Gr O w) w5 g ∧ lab (lab m w.heap.size 3) w5.heap.size 1 g = 3) w6 (.pointer (some ⟨w2.heap.size, 0, none⟩)) (some (ep, ct, l)) from
                ⟨w2.heap.size, _, rfl, hlab _ HW12.out Z5.out, hX6, HSL.out _ hlab C6.out, HL.out⟩))
            have HCW : Hid (Ch (fun g => g = bl ∨ g = b) w5 (w6.setCell ⟨b, 2, none⟩ (.pointer (some ⟨w2.heap.size, 0, none⟩)))) := (C6.out.mono fun _ _ h => .inl h).then cs fun _ _ h => .inr h
            have HSZ : Hid (w5.heap.size ≤ (w6.setCell ⟨b, 2, none⟩ (.pointer (some ⟨w2.heap.size, 0, none⟩))).heap.size) := Nat.le_trans C6.out.size cs.size
            have CF : Hid (Ch O w (w6.setCell ⟨b, 2, none⟩ (.pointer (some ⟨w2.heap.size, 0, none⟩)))) := ((C5.out.mono fun _ _ h => h.elim).then C6.out fun g hl e => e ▸ HU.out.lock.1.1).then cs fun g hl e => e ▸ HU.out.ob
            clear cs hX6 hS6 hlab
            refine (lock_set_any _ (New w.heap.size) _ bl L _ rs HA.out.lock OK.out _ (HWas.out _ HCW.out) HRl.out).mono ?_
            rintro e w7 ⟨t7, rfl, h7, c7⟩
            have H8 := Lib.hid (HA.out.stepLock h7 c7 (fun g e _ => e ▸ HA.out.lock.1))
            have C7 := Lib.hid c7
            clear h7 c7
            go_wp2_with fail
            go_end0
            have hlen := H8.out.lock.2.1.len
            have hlen0 := HU.out.lock.2.1.len
            refine ⟨rfl, ⟨_, _, .inr ⟨H2.out, _, _, rfl⟩, by rw [hlen, hlen0], _, bl, be, _, H8.out.mono fun g hg _ => ?_⟩, ?_⟩
            · exact Gr.gr C5.out.size _ (Gr.gr HSZ.out _ hg)
            · exact CF.out.then C7.out fun g hl e => e ▸ HU.out.lock.1.1
        · go_wp2_with fail
          (try simp only [Exit.inBlock, Exit.then])
          refine bodyPost_ret (results_none rfl _ _ _) rfl ?_
          exact ⟨rfl, HStay.out _ C4.out⟩
    · have he' : (er != 0) = true := by simpa using he
      clear he
      go_wp2_with fail
      (try simp only [Exit.inBlock, Exit.then])
      refine bodyPost_ret (results_none rfl _ _ _) rfl ?_
      exact ⟨rfl, HStay.out _ C1.out⟩
  · have hl := hv.len
    obtain ⟨a, c, rfl, -, -, -, -⟩ := hv.sl
    refine (unit_hear0 O w b L us rs a n c h (.inl h2)).mono ?_
    rintro r w' ⟨rfl, rfl⟩
    exact ⟨rfl, ⟨us, rs, .inl rfl, rfl, h.mono fun g hg _ => .inl hg⟩, Ch.refl _ _⟩
end Go.Proofs.YtkplgggdidhnoaaGreatDoor

namespace Go.Proofs.YtkplgggdidhnoaaGreatDoor
open Go.ChangeShapes Go.WideShapes Go.ChangeAt Go.RowKit
set_option linter.unusedVariables false

/-- What a command does to the routes, as far as it is told. -/
def CmdR (L : Lay) (occ : List Bool) (c : Cmd) (rs rs' : List RS) : Prop := c.kind = 1 → 0 ≤ c.route → c.route < L.routes.length → Clear rs occ → rs' = rs.set c.route.toNat ⟨1, 0, 0, false⟩
def CmdsR (L : Lay) (occ : List Bool) : List Cmd → List RS → List RS → Prop
  | [], a, b => b = a
  | c :: cs, a, b => ∃ m, CmdR L occ c a m ∧ CmdsR L occ cs m b
theorem CmdsR.snoc {L : Lay} {occ : List Bool} {x : Cmd} : ∀ {cs : List Cmd} {a b c : List RS}, CmdsR L occ cs a b → CmdR L occ x b c → CmdsR L occ (cs ++ [x]) a c
  | [], a, b, c, h, k => by
    have e : b = a := h
    subst e
    exact ⟨c, k, rfl⟩
  | y :: ys, a, b, c, ⟨m, h1, h2⟩, k => ⟨m, h1, CmdsR.snoc h2 k⟩

/-- What a cycle of the Lock does. -/
def CycR (L : Lay) (occ : List Bool) (lies : List Int) (on : Bool) (cs : List Cmd) (rs rs2 : List RS) (d : List Int) (p : List Bool) : Prop :=
  ∃ rs1, (if on = true then CmdsR L occ cs rs rs1 else rs1 = rs) ∧ Stp L occ lies rs1 rs1.length rs2 ∧
    (on = true → Drv L rs2 occ lies (List.replicate L.pts.length 0) rs2.length d ∧ Prc L rs2 occ lies (List.replicate L.sigs.length false) rs2.length p) ∧
    (on = false → d = List.replicate L.pts.length 0 ∧ p = List.replicate L.sigs.length false)

set_option maxRecDepth 100000 in
set_option maxHeartbeats 4000000 in
theorem cyc_any (O B B' : Nat → Prop) (w : World) (b bl : Nat) (L : Lay) (rs : List RS) (x1 x2 vc y1 y2 y3 y4 y5 y6 : Value) (on : Bool) (occ : List Bool) (lies : List Int) (cs : List Cmd)
    (hb : Blk w b 110 #[.pointer (some ⟨bl, 0, none⟩), y1, y2, y3, y4, y5, y6]) (hnb : ¬ O b) (hOw : ∀ g, O g → g < w.heap.size) (h : LockAt O w bl L rs) (ok : LayOk L)
    (hI : InR B w (.agg #[x1, x2]) occ lies) (ho : occ.length = L.secs.length) (hl : lies.length = L.pts.length) (hz : ∀ x ∈ lies, 0 ≤ x ∧ x ≤ 2) (hB : ∀ g, B g → ¬ O g)
    (hv : Sl B' w vc cs.length (cs.flatMap fCmd)) (hB' : ∀ g, B' g → ¬ O g) (hcl : cs.length ≤ 1000) :
    Calls Tryz.prog 104 #[.pointer (some ⟨b, 0, none⟩), .agg #[x1, x2], .bool on, vc] w fun r w' => ∃ u d p rs2, r = .returned u ∧ OutAt (New w.heap.size) w' u d p ∧ LockAt O w' bl L rs2 ∧ CycR L occ lies on cs rs rs2 d p ∧ Ch O w w' := by
  obtain ⟨w0, hw0⟩ : ∃ w0, w0 = (w.alloc (.cells #[x1, x2] 133)).alloc (.cells #[.slice none 0 0, .slice none 0 0] 36) := ⟨_, rfl⟩
  have c0 : Ch Noone w w0 := by rw [hw0]; exact ((Ch.refl _ _).alloc _).alloc _
  have bi : Blk w0 w.heap.size 133 #[x1, x2] := by rw [hw0]; exact (Blk.new _ _ _).alloc _
  have bo : Blk w0 (w.heap.size + 1) 36 #[.slice none 0 0, .slice none 0 0] := by rw [hw0]; exact Blk.new2 _ _ _ _
  have sz0 : w0.heap.size = w.heap.size + 2 := by rw [hw0]; simp
  have HW0 := Lib.hid hw0
  have C0 := Lib.hid c0
  have BI := Lib.hid bi
  have BO := Lib.hid bo
  have SZ0 := Lib.hid sz0
  have HK0 := Lib.hid (h.ch0 c0)
  have HI0 := Lib.hid (hI.ch0 c0)
  have HV0 := Lib.hid (hv.ch0 c0)
  have HU0 := Lib.hid (c0.blk hb (fun h => h))
  have OK := Lib.hid ok
  have HOc := Lib.hid ho
  have HLi := Lib.hid hl
  have HZ := Lib.hid hz
  have HB := Lib.hid hB
  have HB' := Lib.hid hB'
  have HNb := Lib.hid hnb
  have HOw := Lib.hid hOw
  obtain ⟨ca, cc, rfl, hcc, -, -, -⟩ := hv
  clear h ok hI ho hl hz hB hB' hw0 c0 bi bo sz0 hnb hOw hb hcc
  go_enter Tryz.func104, Tryz.ntmps104
  cases on
  · go_wp2_with fail
    rw [← HW0.out]
    have HKZ := HK0
    have CZ : Hid (Ch O w0 w0) := Ch.refl _ _
    have HLC : Hid (∀ W', Ch Noone w0 W' → Calls Tryz.prog 130 #[.pointer (some ⟨bl, 0, none⟩), .agg #[x1, x2]] W' fun e w' => ∃ u d p rs', e = .returned u ∧ OutAt (New W'.heap.size) w' u d p ∧ LockAt O w' bl L rs' ∧ Stp L occ lies rs rs.length rs' ∧
      Drv L rs' occ lies (List.replicate L.pts.length 0) rs'.length d ∧ Prc L rs' occ lies (List.replicate L.sigs.length false) rs'.length p ∧ Ch O W' w') := fun W' c =>
      lock_cycle O B W' bl L rs _ occ lies (HKZ.out.ch c (fun _ _ _ h => h)) OK.out ((HI0.out.ch CZ.out (fun g hg _ => HB.out g hg)).ch0 c) HOc.out HLi.out HZ.out HB.out
    have HSz : Hid (w.heap.size + 2 ≤ w0.heap.size) := by have h1 := SZ0.out; have h2 := CZ.out.size; show _ ≤ _; omega
    have HS : Hid (∀ W', Ch O w0 W' → W'.cell? ⟨b, 0, none⟩ = some (.pointer (some ⟨bl, 0, none⟩)) ∧ W'.cell? ⟨w.heap.size, 0, none⟩ = some x1 ∧ W'.cell? ⟨w.heap.size, 0 + 1, none⟩ = some x2) := fun W' c => by
      have c' := CZ.out.trans c
      have k1 := c'.blk HU0.out HNb.out
      have k2 := c'.blk BI.out (fun h => absurd (HOw.out _ h) (by omega))
      exact ⟨k1.cell 0, k2.cell 0, k2.cell 1⟩
    go_region_held3 (fun W' => W'.cell? ⟨b, 0, none⟩ = some (.pointer (some ⟨bl, 0, none⟩)) ∧ W'.cell? ⟨w.heap.size, 0, none⟩ = some x1 ∧ W'.cell? ⟨w.heap.size, 0 + 1, none⟩ = some x2)
      (first
        | exact HS.out _ ((Ch.refl _ _).drew)
        | exact HS.out _ ((Ch.refl _ _).drew.alloc _)
        | exact HS.out _ CC.out
        | exact HS.out _ (CC.out.alloc _)
        | exact HS.out _ ((CC.out.set (b := w0.heap.size) (fun h => absurd h (Nat.lt_irrefl _)) 0 _).set (b := w0.heap.size) (fun h => absurd h (Nat.lt_irrefl _)) 1 _))
      (first
        | (go_at_call 130; refine (HLC.out _ ((Ch.refl _ _).drew)).mono ?_; rintro e w1 ⟨u, d, p, rs2, rfl, ⟨v1, v2, rfl, hd, hp⟩, hk, hst, hdr, hpr, hc⟩
           obtain ⟨e1, f1, rfl, -, -, -, -⟩ := id hd.sl; obtain ⟨e2, f2, rfl, -, -, -, -⟩ := id hp.sl
           have CC : Hid (Ch O w0 w1) := (Ch.refl _ _).drew.trans hc
           have HD : Hid (OutAt (New w0.heap.size) w1 (.agg #[.slice e1 d.length f1, .slice e2 p.length f2]) d p) := ⟨_, _, rfl, hd, hp⟩
           have HKK := Lib.hid hk; have HST := Lib.hid hst; have HDR := Lib.hid hdr; have HPR := Lib.hid hpr; have HZA : Hid (w0.heap.size ≤ w1.heap.size) := hc.size
           clear hd hp hk hst hdr hpr hc)
        | (go_at_call 130; refine (HLC.out _ ((Ch.refl _ _).drew.alloc _)).mono ?_; rintro e w1 ⟨u, d, p, rs2, rfl, ⟨v1, v2, rfl, hd, hp⟩, hk, hst, hdr, hpr, hc⟩
           obtain ⟨e1, f1, rfl, -, -, -, -⟩ := id hd.sl; obtain ⟨e2, f2, rfl, -, -, -, -⟩ := id hp.sl
           have CC : Hid (Ch O w0 w1) := ((Ch.refl _ _).drew.alloc _).trans hc
           have HD : Hid (OutAt (New (w0.heap.size + 1)) w1 (.agg #[.slice e1 d.length f1, .slice e2 p.length f2]) d p) := by
             have h : OutAt (New ((w0.drew.alloc _).heap.size)) w1 (.agg #[.slice e1 d.length f1, .slice e2 p.length f2]) d p := ⟨_, _, rfl, hd, hp⟩
             rw [World.size_alloc] at h
             exact h
           have HKK := Lib.hid hk; have HST := Lib.hid hst; have HDR := Lib.hid hdr; have HPR := Lib.hid hpr; have HZA : Hid (w0.heap.size ≤ w1.heap.size) := Nat.le_trans (Nat.le_succ _) (by have := hc.size; simpa using this)
           have kb : Blk w1 w0.heap.size 36 #[.slice none 0 0, .slice none 0 0] := hc.blk (Blk.new w0.drew _ _) (fun h => absurd (HOw.out _ h) (Nat.not_lt.2 (Nat.le_trans C0.out.size CZ.out.size)))
           have n0 := kb.cell 0; have n1 := kb.cell 1; have g0 := kb.free 0; have g1 := kb.free 1; have KBk := Lib.hid kb
           clear hd hp hk hst hdr hpr hc kb))
    · obtain ⟨WE, hWE⟩ : ∃ WE, WE = w1.alloc (.cells #[.slice e1 d.length f1, .slice e2 p.length f2] 36) := ⟨_, rfl⟩
      have BT : Hid (Blk WE w1.heap.size 36 #[.slice e1 d.length f1, .slice e2 p.length f2]) := by rw [hWE]; exact Blk.new _ _ _
      have CE : Hid (Ch O w0 WE) := by rw [hWE]; exact CC.out.alloc _
      have HDE : Hid (OutAt (New (w.heap.size + 2)) WE (.agg #[.slice e1 d.length f1, .slice e2 p.length f2]) d p) := by
        rw [hWE]
        exact (HD.out.ch (S := Noone) ((Ch.refl _ _).alloc _) (fun _ _ _ h => h)).mono fun g (hg : _ ≤ g) _ => (by have h1 := HSz.out; show _ ≤ g; omega)
      have HKE : Hid (LockAt O WE bl L rs2) := by rw [hWE]; exact HKK.out.ch (S := Noone) ((Ch.refl _ _).alloc _) (fun _ _ _ h => h)
      have HT2 : Hid (w.heap.size + 1 < w1.heap.size) := by have h1 := HSz.out; have h2 := HZA.out; show _ < _; omega
      rw [← hWE]
      clear hWE
      have be := (CZ.out.trans CE.out).blk HU0.out HNb.out
      have l0 : WE.cell? ⟨b, 0, none⟩ = some (.pointer (some ⟨bl, 0, none⟩)) := be.cell 0
      clear be
      go_wp2_with fail
      refine (lock_safe O WE bl L rs2 HKE.out OK.out).mono ?_
      rintro e w3 ⟨u, rfl, ⟨v1, v2, rfl, hd, hp⟩, c3⟩
      obtain ⟨i1, j1, rfl, -, -, -, -⟩ := id hd.sl
      obtain ⟨i2, j2, rfl, -, -, -, -⟩ := id hp.sl
      have HD3 : Hid (OutAt (New WE.heap.size) w3 (.agg #[.slice i1 (List.replicate L.pts.length (0 : Int)).length j1, .slice i2 (List.replicate L.sigs.length false).length j2]) (List.replicate L.pts.length 0) (List.replicate L.sigs.length false)) := ⟨_, _, rfl, hd, hp⟩
      have be := c3.blk ((CZ.out.trans CE.out).blk BO.out (fun h => absurd (HOw.out _ h) (by omega))) (fun h => h)
      have n0 := be.cell 0
      have n1 := be.cell 1
      have g0 := be.free 0
      have g1 := be.free 1
      have HBE := Lib.hid be
      have C3 := Lib.hid c3
      clear be hd hp c3
      go_wp2_with fail
      have hx : Blk ((w3.setCell ⟨w.heap.size + 1, 0, none⟩ (.slice i1 (List.replicate L.pts.length (0 : Int)).length j1)).setCell ⟨w.heap.size + 1, 1, none⟩ (.slice i2 (List.replicate L.sigs.length false).length j2)) (w.heap.size + 1) 36 #[.slice i1 (List.replicate L.pts.length (0 : Int)).length j1, .slice i2 (List.replicate L.sigs.length false).length j2] := by
        have := (HBE.out.set 0 (.slice i1 (List.replicate L.pts.length (0 : Int)).length j1)).set 1 (.slice i2 (List.replicate L.sigs.length false).length j2); simpa using this
      have cx : Ch (fun g => g = w.heap.size + 1) w3 ((w3.setCell ⟨w.heap.size + 1, 0, none⟩ (.slice i1 (List.replicate L.pts.length (0 : Int)).length j1)).setCell ⟨w.heap.size + 1, 1, none⟩ (.slice i2 (List.replicate L.sigs.length false).length j2)) := ((Ch.refl _ _).set1 _ _).set1 _ _
      have ho := (HD3.out.ch cx (fun g (hg : _ ≤ g) _ e => by have h1 := HSz.out; have h2 := CE.out.size; omega)).mono (O' := New w.heap.size) fun g (hg : _ ≤ g) _ => (by have h1 := HSz.out; have h2 := CE.out.size; show _ ≤ g; omega)
      simp only [List.length_replicate] at hx cx ho
      (try simp only [Exit.inBlock, Exit.then])
      refine bodyPost_ret (results_cell_row (P := Tryz.prog) rfl _ _ (w.heap.size + 1) _ _ _ _ rfl hx Tryz.underlying36 rfl (by kernel_rfl)) rfl ?_
      refine ⟨_, _, _, rs2, rfl, ho, ?_, ⟨rs, rfl, HST.out, fun h => (by cases h), fun _ => ⟨rfl, rfl⟩⟩, ?_⟩
      · exact (HKE.out.ch C3.out (fun _ _ _ h => h)).ch cx (fun g hg _ e => by have h1 := HOw.out g hg; omega)
      · exact (((C0.out.mono fun _ _ h => h.elim).trans (CZ.out.trans CE.out)).then C3.out fun _ _ h => h.elim).then cx fun g hl e => by omega
    · obtain ⟨WE, hWE⟩ : ∃ WE, WE = (w1.setCell ⟨w0.heap.size, 0, none⟩ (.slice e1 d.length f1)).setCell ⟨w0.heap.size, 1, none⟩ (.slice e2 p.length f2) := ⟨_, rfl⟩
      have cs : Ch (fun g => g = w0.heap.size) w1 WE := by rw [hWE]; exact ((Ch.refl _ _).set1 _ _).set1 _ _
      have BT : Hid (Blk WE w0.heap.size 36 #[.slice e1 d.length f1, .slice e2 p.length f2]) := by rw [hWE]; have h2 := (KBk.out.set 0 (.slice e1 d.length f1)).set 1 (.slice e2 p.length f2); exact Lib.hid (by simpa using h2)
      have CE : Hid (Ch O w0 WE) := by rw [hWE]; exact (CC.out.set (b := w0.heap.size) (fun h => absurd h (Nat.lt_irrefl _)) 0 _).set (b := w0.heap.size) (fun h => absurd h (Nat.lt_irrefl _)) 1 _
      have HDE : Hid (OutAt (New (w.heap.size + 2)) WE (.agg #[.slice e1 d.length f1, .slice e2 p.length f2]) d p) := (HD.out.ch cs (fun g (hg : _ ≤ g) _ e => by omega)).mono fun g (hg : _ ≤ g) _ => (by have h1 := HSz.out; show _ ≤ g; omega)
      have HKE : Hid (LockAt O WE bl L rs2) := HKK.out.ch cs (fun g hg _ e => by have h1 := HOw.out g hg; have h2 := HSz.out; omega)
      have HT2 : Hid (w.heap.size + 1 < w0.heap.size) := HSz.out
      rw [← hWE]
      clear hWE cs n0 n1 g0 g1
      have be := (CZ.out.trans CE.out).blk HU0.out HNb.out
      have l0 : WE.cell? ⟨b, 0, none⟩ = some (.pointer (some ⟨bl, 0, none⟩)) := be.cell 0
      clear be
      go_wp2_with fail
      refine (lock_safe O WE bl L rs2 HKE.out OK.out).mono ?_
      rintro e w3 ⟨u, rfl, ⟨v1, v2, rfl, hd, hp⟩, c3⟩
      obtain ⟨i1, j1, rfl, -, -, -, -⟩ := id hd.sl
      obtain ⟨i2, j2, rfl, -, -, -, -⟩ := id hp.sl
      have HD3 : Hid (OutAt (New WE.heap.size) w3 (.agg #[.slice i1 (List.replicate L.pts.length (0 : Int)).length j1, .slice i2 (List.replicate L.sigs.length false).length j2]) (List.replicate L.pts.length 0) (List.replicate L.sigs.length false)) := ⟨_, _, rfl, hd, hp⟩
      have be := c3.blk ((CZ.out.trans CE.out).blk BO.out (fun h => absurd (HOw.out _ h) (by omega))) (fun h => h)
      have n0 := be.cell 0
      have n1 := be.cell 1
      have g0 := be.free 0
      have g1 := be.free 1
      have HBE := Lib.hid be
      have C3 := Lib.hid c3
      clear be hd hp c3
      go_wp2_with fail
      have hx : Blk ((w3.setCell ⟨w.heap.size + 1, 0, none⟩ (.slice i1 (List.replicate L.pts.length (0 : Int)).length j1)).setCell ⟨w.heap.size + 1, 1, none⟩ (.slice i2 (List.replicate L.sigs.length false).length j2)) (w.heap.size + 1) 36 #[.slice i1 (List.replicate L.pts.length (0 : Int)).length j1, .slice i2 (List.replicate L.sigs.length false).length j2] := by
        have := (HBE.out.set 0 (.slice i1 (List.replicate L.pts.length (0 : Int)).length j1)).set 1 (.slice i2 (List.replicate L.sigs.length false).length j2); simpa using this
      have cx : Ch (fun g => g = w.heap.size + 1) w3 ((w3.setCell ⟨w.heap.size + 1, 0, none⟩ (.slice i1 (List.replicate L.pts.length (0 : Int)).length j1)).setCell ⟨w.heap.size + 1, 1, none⟩ (.slice i2 (List.replicate L.sigs.length false).length j2)) := ((Ch.refl _ _).set1 _ _).set1 _ _
      have ho := (HD3.out.ch cx (fun g (hg : _ ≤ g) _ e => by have h1 := HSz.out; have h2 := CE.out.size; omega)).mono (O' := New w.heap.size) fun g (hg : _ ≤ g) _ => (by have h1 := HSz.out; have h2 := CE.out.size; show _ ≤ g; omega)
      simp only [List.length_replicate] at hx cx ho
      (try simp only [Exit.inBlock, Exit.then])
      refine bodyPost_ret (results_cell_row (P := Tryz.prog) rfl _ _ (w.heap.size + 1) _ _ _ _ rfl hx Tryz.underlying36 rfl (by kernel_rfl)) rfl ?_
      refine ⟨_, _, _, rs2, rfl, ho, ?_, ⟨rs, rfl, HST.out, fun h => (by cases h), fun _ => ⟨rfl, rfl⟩⟩, ?_⟩
      · exact (HKE.out.ch C3.out (fun _ _ _ h => h)).ch cx (fun g hg _ e => by have h1 := HOw.out g hg; omega)
      · exact (((C0.out.mono fun _ _ h => h.elim).trans (CZ.out.trans CE.out)).then C3.out fun _ _ h => h.elim).then cx fun g hl e => by omega
  · go_wp2_with fail
    rw [← HW0.out]
    go_loopw [15] (fun i wr => ∃ (j : Nat) (rj : List RS), j ≤ cs.length ∧ i = .int .i64 j ∧ Hid (LockAt O wr bl L rj) ∧ Hid (CmdsR L occ (cs.take j) rs rj) ∧ Hid (Ch O w0 wr)) (fun i _ => (cs.length - intOf i).toNat)
    case atStart => exact ⟨0, rs, Nat.zero_le _, rfl, HK0.out, rfl, Ch.refl _ _⟩
    case round =>
      obtain ⟨j, rj, hj, rfl, HKj, HCj, CZ⟩ := hrel
      have HSr : Hid (w.heap.size + 2 ≤ wr.heap.size) := by have h1 := SZ0.out; have h2 := CZ.out.size; show _ ≤ _; omega
      by_cases hjl : j < cs.length
      · have hj0 : (0 : Int) ≤ j := by omega
        have hj1 : (j : Int) < cs.length := by omega
        have hvr := HV0.out.ch CZ.out (fun g hg _ => HB'.out g hg)
        obtain ⟨g, off, rfl, -, hgw, hat⟩ := hvr.at (f := fCmd) (C := 2) (fun _ => rfl) (by omega) hjl
        have z0 : wr.cell? ⟨g, off + j * 2, none⟩ = some (.int .i64 cs[j].kind) := hat 0 (by omega)
        have z1 : wr.cell? ⟨g, off + j * 2 + 1, none⟩ = some (.int .i64 cs[j].route) := hat 1 (by omega)
        have HTk : Hid (cs.take (j + 1) = cs.take j ++ [cs[j]]) := List.take_succ_eq_append_getElem hjl
        clear hat hvr
        generalize cs[j] = cm at *
        obtain ⟨ck, cr⟩ := cm
        dsimp only at *
        obtain ⟨wc, hwc⟩ : ∃ wc, wc = wr.alloc (.cells #[.int .i64 ck, .int .i64 cr] 50) := ⟨_, rfl⟩
        have CC0 : Hid (Ch Noone wr wc) := by rw [hwc]; exact (Ch.refl _ _).alloc _
        have BC : Hid (Blk wc wr.heap.size 50 #[.int .i64 ck, .int .i64 cr]) := by rw [hwc]; exact Blk.new _ _ _
        have HWC := Lib.hid hwc
        clear hwc
        have HS : Hid (∀ W', Ch O wc W' → W'.cell? ⟨b, 0, none⟩ = some (.pointer (some ⟨bl, 0, none⟩)) ∧ W'.cell? ⟨w.heap.size, 0, none⟩ = some x1 ∧ W'.cell? ⟨w.heap.size, 0 + 1, none⟩ = some x2 ∧ W'.cell? ⟨wr.heap.size, 0, none⟩ = some (.int .i64 ck) ∧ W'.cell? ⟨wr.heap.size, 0 + 1, none⟩ = some (.int .i64 cr)) := fun W' c => by
          have c' := (CZ.out.then CC0.out (fun _ _ h => h.elim)).trans c
          have k1 := c'.blk HU0.out HNb.out
          have k2 := c'.blk BI.out (fun h => absurd (HOw.out _ h) (by omega))
          have k3 := c.blk BC.out (fun h => by have h1 := HOw.out _ h; have h2 := HSr.out; omega)
          exact ⟨k1.cell 0, k2.cell 0, k2.cell 1, k3.cell 0, k3.cell 1⟩
        have HCm := Lib.hid (command_any O B wc.drew bl L rj _ occ lies ⟨ck, cr⟩ ((HKj.out.ch CC0.out (fun _ _ _ h => h)).ch ((Ch.refl Noone wc).drew) (fun _ _ _ h => h)) OK.out (((HI0.out.ch CZ.out (fun g hg _ => HB.out g hg)).ch0 CC0.out).ch0 ((Ch.refl Noone wc).drew)) HOc.out HLi.out HZ.out)
        go_wp2_with fail
        rw [← HWC.out]
        go_region_held3 (fun W' => W'.cell? ⟨b, 0, none⟩ = some (.pointer (some ⟨bl, 0, none⟩)) ∧ W'.cell? ⟨w.heap.size, 0, none⟩ = some x1 ∧ W'.cell? ⟨w.heap.size, 0 + 1, none⟩ = some x2 ∧ W'.cell? ⟨wr.heap.size, 0, none⟩ = some (.int .i64 ck) ∧ W'.cell? ⟨wr.heap.size, 0 + 1, none⟩ = some (.int .i64 cr))
          (first | exact HS.out _ ((Ch.refl _ _).drew) | exact HS.out _ CC.out)
          (first
            | (go_at_call 129; refine HCm.out.mono ?_; rintro e w1 ⟨⟨n, rfl⟩, ⟨r1, hk, hr⟩, hc⟩; have CC : Hid (Ch O wc w1) := (Ch.refl _ _).drew.trans hc; have HK1 := Lib.hid hk; have HR1 := Lib.hid hr; clear hk hr hc))
        go_wp2_with fail
        go_roundw
        case rel => exact ⟨j + 1, r1, by omega, by go_num, HK1.out, by show CmdsR _ _ _ _ _; rw [HTk.out]; exact HCj.out.snoc (x := ⟨ck, cr⟩) HR1.out, (CZ.out.then CC0.out (fun _ _ h => h.elim)).trans CC.out⟩
        case measure => simp [intOf]; omega
      · obtain rfl : j = cs.length := by omega
        rw [List.take_length] at HCj
        have HKZ := HKj
        go_wp2_with fail
        have HLC : Hid (∀ W', Ch Noone wr W' → Calls Tryz.prog 130 #[.pointer (some ⟨bl, 0, none⟩), .agg #[x1, x2]] W' fun e w' => ∃ u d p rs', e = .returned u ∧ OutAt (New W'.heap.size) w' u d p ∧ LockAt O w' bl L rs' ∧ Stp L occ lies rj rj.length rs' ∧
          Drv L rs' occ lies (List.replicate L.pts.length 0) rs'.length d ∧ Prc L rs' occ lies (List.replicate L.sigs.length false) rs'.length p ∧ Ch O W' w') := fun W' c =>
          lock_cycle O B W' bl L rj _ occ lies (HKZ.out.ch c (fun _ _ _ h => h)) OK.out ((HI0.out.ch CZ.out (fun g hg _ => HB.out g hg)).ch0 c) HOc.out HLi.out HZ.out HB.out
        have HSz : Hid (w.heap.size + 2 ≤ wr.heap.size) := by have h1 := SZ0.out; have h2 := CZ.out.size; show _ ≤ _; omega
        have HS : Hid (∀ W', Ch O wr W' → W'.cell? ⟨b, 0, none⟩ = some (.pointer (some ⟨bl, 0, none⟩)) ∧ W'.cell? ⟨w.heap.size, 0, none⟩ = some x1 ∧ W'.cell? ⟨w.heap.size, 0 + 1, none⟩ = some x2) := fun W' c => by
          have c' := CZ.out.trans c
          have k1 := c'.blk HU0.out HNb.out
          have k2 := c'.blk BI.out (fun h => absurd (HOw.out _ h) (by omega))
          exact ⟨k1.cell 0, k2.cell 0, k2.cell 1⟩
        go_region_held3 (fun W' => W'.cell? ⟨b, 0, none⟩ = some (.pointer (some ⟨bl, 0, none⟩)) ∧ W'.cell? ⟨w.heap.size, 0, none⟩ = some x1 ∧ W'.cell? ⟨w.heap.size, 0 + 1, none⟩ = some x2)
          (first
            | exact HS.out _ ((Ch.refl _ _).drew)
            | exact HS.out _ ((Ch.refl _ _).drew.alloc _)
            | exact HS.out _ CC.out
            | exact HS.out _ (CC.out.alloc _)
            | exact HS.out _ ((CC.out.set (b := wr.heap.size) (fun h => absurd h (Nat.lt_irrefl _)) 0 _).set (b := wr.heap.size) (fun h => absurd h (Nat.lt_irrefl _)) 1 _))
          (first
            | (go_at_call 130; refine (HLC.out _ ((Ch.refl _ _).drew)).mono ?_; rintro e w1 ⟨u, d, p, rs2, rfl, ⟨v1, v2, rfl, hd, hp⟩, hk, hst, hdr, hpr, hc⟩
               obtain ⟨e1, f1, rfl, -, -, -, -⟩ := id hd.sl; obtain ⟨e2, f2, rfl, -, -, -, -⟩ := id hp.sl
               have CC : Hid (Ch O wr w1) := (Ch.refl _ _).drew.trans hc
               have HD : Hid (OutAt (New wr.heap.size) w1 (.agg #[.slice e1 d.length f1, .slice e2 p.length f2]) d p) := ⟨_, _, rfl, hd, hp⟩
               have HKK := Lib.hid hk; have HST := Lib.hid hst; have HDR := Lib.hid hdr; have HPR := Lib.hid hpr; have HZA : Hid (wr.heap.size ≤ w1.heap.size) := hc.size
               clear hd hp hk hst hdr hpr hc)
            | (go_at_call 130; refine (HLC.out _ ((Ch.refl _ _).drew.alloc _)).mono ?_; rintro e w1 ⟨u, d, p, rs2, rfl, ⟨v1, v2, rfl, hd, hp⟩, hk, hst, hdr, hpr, hc⟩
               obtain ⟨e1, f1, rfl, -, -, -, -⟩ := id hd.sl; obtain ⟨e2, f2, rfl, -, -, -, -⟩ := id hp.sl
               have CC : Hid (Ch O wr w1) := ((Ch.refl _ _).drew.alloc _).trans hc
               have HD : Hid (OutAt (New (wr.heap.size + 1)) w1 (.agg #[.slice e1 d.length f1, .slice e2 p.length f2]) d p) := by
                 have h : OutAt (New ((wr.drew.alloc _).heap.size)) w1 (.agg #[.slice e1 d.length f1, .slice e2 p.length f2]) d p := ⟨_, _, rfl, hd, hp⟩
                 rw [World.size_alloc] at h
                 exact h
               have HKK := Lib.hid hk; have HST := Lib.hid hst; have HDR := Lib.hid hdr; have HPR := Lib.hid hpr; have HZA : Hid (wr.heap.size ≤ w1.heap.size) := Nat.le_trans (Nat.le_succ _) (by have := hc.size; simpa using this)
               have kb : Blk w1 wr.heap.size 36 #[.slice none 0 0, .slice none 0 0] := hc.blk (Blk.new wr.drew _ _) (fun h => absurd (HOw.out _ h) (Nat.not_lt.2 (Nat.le_trans C0.out.size CZ.out.size)))
               have n0 := kb.cell 0; have n1 := kb.cell 1; have g0 := kb.free 0; have g1 := kb.free 1; have KBk := Lib.hid kb
               clear hd hp hk hst hdr hpr hc kb))
        · obtain ⟨WE, hWE⟩ : ∃ WE, WE = w1.alloc (.cells #[.slice e1 d.length f1, .slice e2 p.length f2] 36) := ⟨_, rfl⟩
          have BT : Hid (Blk WE w1.heap.size 36 #[.slice e1 d.length f1, .slice e2 p.length f2]) := by rw [hWE]; exact Blk.new _ _ _
          have CE : Hid (Ch O wr WE) := by rw [hWE]; exact CC.out.alloc _
          have HDE : Hid (OutAt (New (w.heap.size + 2)) WE (.agg #[.slice e1 d.length f1, .slice e2 p.length f2]) d p) := by
            rw [hWE]
            exact (HD.out.ch (S := Noone) ((Ch.refl _ _).alloc _) (fun _ _ _ h => h)).mono fun g (hg : _ ≤ g) _ => (by have h1 := HSz.out; show _ ≤ g; omega)
          have HKE : Hid (LockAt O WE bl L rs2) := by rw [hWE]; exact HKK.out.ch (S := Noone) ((Ch.refl _ _).alloc _) (fun _ _ _ h => h)
          have HT2 : Hid (w.heap.size + 1 < w1.heap.size) := by have h1 := HSz.out; have h2 := HZA.out; show _ < _; omega
          rw [← hWE]
          clear hWE
          have be := (CZ.out.trans CE.out).blk BO.out (fun h => absurd (HOw.out _ h) (by omega))
          have n0 := be.cell 0
          have n1 := be.cell 1
          have g0 := be.free 0
          have g1 := be.free 1
          have t0 := BT.out.cell 0
          have t1 := BT.out.cell 1
          have HBE := Lib.hid be
          clear be
          go_wp2_with fail
          have hx : Blk ((WE.setCell ⟨w.heap.size + 1, 0, none⟩ (.slice e1 d.length f1)).setCell ⟨w.heap.size + 1, 1, none⟩ (.slice e2 p.length f2)) (w.heap.size + 1) 36 #[.slice e1 d.length f1, .slice e2 p.length f2] := by
            have := (HBE.out.set 0 (.slice e1 d.length f1)).set 1 (.slice e2 p.length f2); simpa using this
          have cx : Ch (fun g => g = w.heap.size + 1) WE ((WE.setCell ⟨w.heap.size + 1, 0, none⟩ (.slice e1 d.length f1)).setCell ⟨w.heap.size + 1, 1, none⟩ (.slice e2 p.length f2)) := ((Ch.refl _ _).set1 _ _).set1 _ _
          (try simp only [Exit.inBlock, Exit.then])
          refine bodyPost_ret (results_cell_row (P := Tryz.prog) rfl _ _ (w.heap.size + 1) _ _ _ _ rfl hx Tryz.underlying36 rfl (by kernel_rfl)) rfl ?_
          have ho := (HDE.out.ch cx (fun g (hg : _ ≤ g) _ e => by omega)).mono (O' := New w.heap.size) fun g (hg : _ ≤ g) _ => (by show _ ≤ g; omega)
          refine ⟨_, _, _, rs2, rfl, ho, ?_, ⟨rj, by rw [if_pos rfl]; exact HCj.out, HST.out, fun _ => ⟨HDR.out, HPR.out⟩, fun h => (by cases h)⟩, ?_⟩
          · exact HKE.out.ch cx (fun g hg _ e => by have h1 := HOw.out g hg; omega)
          · exact ((C0.out.mono fun _ _ h => h.elim).trans (CZ.out.trans CE.out)).then cx fun g hl e => by omega
        · obtain ⟨WE, hWE⟩ : ∃ WE, WE = (w1.setCell ⟨wr.heap.size, 0, none⟩ (.slice e1 d.length f1)).setCell ⟨wr.heap.size, 1, none⟩ (.slice e2 p.length f2) := ⟨_, rfl⟩
          have cs : Ch (fun g => g = wr.heap.size) w1 WE := by rw [hWE]; exact ((Ch.refl _ _).set1 _ _).set1 _ _
          have BT : Hid (Blk WE wr.heap.size 36 #[.slice e1 d.length f1, .slice e2 p.length f2]) := by rw [hWE]; have h2 := (KBk.out.set 0 (.slice e1 d.length f1)).set 1 (.slice e2 p.length f2); exact Lib.hid (by simpa using h2)
          have CE : Hid (Ch O wr WE) := by rw [hWE]; exact (CC.out.set (b := wr.heap.size) (fun h => absurd h (Nat.lt_irrefl _)) 0 _).set (b := wr.heap.size) (fun h => absurd h (Nat.lt_irrefl _)) 1 _
          have HDE : Hid (OutAt (New (w.heap.size + 2)) WE (.agg #[.slice e1 d.length f1, .slice e2 p.length f2]) d p) := (HD.out.ch cs (fun g (hg : _ ≤ g) _ e => by omega)).mono fun g (hg : _ ≤ g) _ => (by have h1 := HSz.out; show _ ≤ g; omega)
          have HKE : Hid (LockAt O WE bl L rs2) := HKK.out.ch cs (fun g hg _ e => by have h1 := HOw.out g hg; have h2 := HSz.out; omega)
          have HT2 : Hid (w.heap.size + 1 < wr.heap.size) := HSz.out
          rw [← hWE]
          clear hWE cs n0 n1 g0 g1
          have be := (CZ.out.trans CE.out).blk BO.out (fun h => absurd (HOw.out _ h) (by omega))
          have n0 := be.cell 0
          have n1 := be.cell 1
          have g0 := be.free 0
          have g1 := be.free 1
          have t0 := BT.out.cell 0
          have t1 := BT.out.cell 1
          have HBE := Lib.hid be
          clear be
          go_wp2_with fail
          have hx : Blk ((WE.setCell ⟨w.heap.size + 1, 0, none⟩ (.slice e1 d.length f1)).setCell ⟨w.heap.size + 1, 1, none⟩ (.slice e2 p.length f2)) (w.heap.size + 1) 36 #[.slice e1 d.length f1, .slice e2 p.length f2] := by
            have := (HBE.out.set 0 (.slice e1 d.length f1)).set 1 (.slice e2 p.length f2); simpa using this
          have cx : Ch (fun g => g = w.heap.size + 1) WE ((WE.setCell ⟨w.heap.size + 1, 0, none⟩ (.slice e1 d.length f1)).setCell ⟨w.heap.size + 1, 1, none⟩ (.slice e2 p.length f2)) := ((Ch.refl _ _).set1 _ _).set1 _ _
          (try simp only [Exit.inBlock, Exit.then])
          refine bodyPost_ret (results_cell_row (P := Tryz.prog) rfl _ _ (w.heap.size + 1) _ _ _ _ rfl hx Tryz.underlying36 rfl (by kernel_rfl)) rfl ?_
          have ho := (HDE.out.ch cx (fun g (hg : _ ≤ g) _ e => by omega)).mono (O' := New w.heap.size) fun g (hg : _ ≤ g) _ => (by show _ ≤ g; omega)
          refine ⟨_, _, _, rs2, rfl, ho, ?_, ⟨rj, by rw [if_pos rfl]; exact HCj.out, HST.out, fun _ => ⟨HDR.out, HPR.out⟩, fun h => (by cases h)⟩, ?_⟩
          · exact HKE.out.ch cx (fun g hg _ e => by have h1 := HOw.out g hg; omega)
          · exact ((C0.out.mono fun _ _ h => h.elim).trans (CZ.out.trans CE.out)).then cx fun g hl e => by omega
end Go.Proofs.YtkplgggdidhnoaaGreatDoor
