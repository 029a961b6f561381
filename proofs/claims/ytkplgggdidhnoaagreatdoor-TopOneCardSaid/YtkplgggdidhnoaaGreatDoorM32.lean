/-
  The contract of unit: Cycle of an Active unit. Conditions: sizes. The contract of unit: Send. Conditions: sizes. The contract of unit: Cycle, of any unit. Conditions: sizes.
-/
import Derived.Test.YtkplgggdidhnoaaGreatDoorM31
import Derived.Test.YtkplgggdidhnoaaGreatDoorM29
import Derived.Test.YtkplgggdidhnoaaGreatDoorM28
namespace Go.Proofs.YtkplgggdidhnoaaGreatDoor
open Go.ChangeShapes Go.WideShapes Go.ChangeAt Go.RowKit
set_option linter.unusedVariables false

/-- A step at the lock, in the lock's own blocks. -/
theorem UnitP.stepLock1 {O : Nat → Prop} {m : Nat → Nat} {w w' : World} {b bl be : Nat} {vc : Value} {L : Lay} {us : US} {rs rs' : List RS} (h : UnitP O m w b bl be vc L us rs)
    (h' : LockAt (fun g => O g ∧ m g = 1) w' bl L rs') (c : Ch (fun g => O g ∧ m g = 1) w w') : UnitP O m w' b bl be vc L { us with rs := rs' } rs' :=
  ⟨h.ob, h.oe, h.mb, h.me, c.blk h.blk (fun hS => by have := hS.2; rw [h.mb] at this; omega), h', c.blk h.lease (fun hS => by have := hS.2; rw [h.me] at this; omega), h.copy.ch c (fun g hg _ hS => by have h1 := hg.2; have h2 := hS.2; omega), rfl⟩

set_option maxRecDepth 100000 in
set_option maxHeartbeats 4000000 in
theorem unit_cycle3 (O B B' : Nat → Prop) (w : World) (b : Nat) (L : Lay) (us : US) (rs : List RS) (x1 x2 vc : Value) (on : Bool) (occ : List Bool) (lies : List Int) (cs : List Cmd) (h : UnitAt O w b L us rs) (ok : LayOk L)
    (hm : us.mode = 3) (hlv : live us.en us.gr us.tick = true) (k0 : -9223372036854775808 ≤ us.count)
    (hI : InR B w (.agg #[x1, x2]) occ lies) (ho : occ.length = L.secs.length) (hl : lies.length = L.pts.length) (hz : ∀ x ∈ lies, 0 ≤ x ∧ x ≤ 2) (hB : ∀ g, B g → ¬ O g)
    (hv : Sl B' w vc cs.length (cs.flatMap fCmd)) (hB' : ∀ g, B' g → ¬ O g) (hcl : cs.length ≤ 1000) :
    Calls Tryz.prog 69 #[.pointer (some ⟨b, 0, none⟩), .agg #[x1, x2], .bool on, vc] w fun r w' => ∃ u d p rs2, r = .returned u ∧ OutAt (New w.heap.size) w' u d p ∧ CycR L occ lies on cs us.rs rs2 d p ∧ UnitAt O w' b L { us.counted with rs := rs2 } rs2 ∧ Ch O w w' := by
  have OK := Lib.hid ok
  clear ok
  obtain ⟨m, bl, be, vv, h⟩ := h
  obtain ⟨w0, hw0⟩ : ∃ w0, w0 = (w.alloc (.cells #[x1, x2] 133)).alloc (.cells #[.slice none 0 0, .slice none 0 0] 36) := ⟨_, rfl⟩
  have c0 : Ch Noone w w0 := by rw [hw0]; exact ((Ch.refl _ _).alloc _).alloc _
  have hP : UnitP (fun g => O g ∧ g < w.heap.size) m w b bl be vv L us rs := h.mono fun g hg hl => ⟨hg, hl⟩
  have h0 := hP.ch c0 (fun _ _ _ h => h)
  have x0 : Blk w0 (w.heap.size + 1) 36 #[.slice none 0 0, .slice none 0 0] := by rw [hw0]; exact Blk.new2 _ _ _ _
  have bi : Blk w0 w.heap.size 133 #[x1, x2] := by rw [hw0]; exact (Blk.new _ _ _).alloc _
  have i0 : w0.cell? ⟨w.heap.size, 0, none⟩ = some x1 := bi.cell 0
  have i1 : w0.cell? ⟨w.heap.size, 0 + 1, none⟩ = some x2 := bi.cell 1
  have hbne : ¬ w.heap.size = b := by have := h.blk.lt; omega
  have HW0 := Lib.hid hw0
  have C0 := Lib.hid c0
  have K0 := Lib.hid k0
  have HU := Lib.hid h
  have H0 := Lib.hid h0
  have X0 := Lib.hid x0
  have HI := Lib.hid hI
  have HOc := Lib.hid ho
  have HLi := Lib.hid hl
  have HZ := Lib.hid hz
  have HB := Lib.hid hB
  have HV := Lib.hid hv
  have HB' := Lib.hid hB'
  have HCl := Lib.hid hcl
  have HRs := Lib.hid h.rsq.symm
  have HWk := Lib.hid (fun k => unit_works (w0.drewN k) b us.mode (h0.blk.cells7.2.2.2.1))
  have HLv := Lib.hid (fun k => lease_live (w0.drewN k) be us.ep us.en us.tick us.gr h0.lease)
  obtain ⟨l0, l1, -, l3, l4, l5, l6⟩ := h0.blk.cells7
  have f3 := h0.blk.free 3
  have f5 := h0.blk.free 5
  rw [hm] at l3 HWk
  rw [hlv] at HLv
  obtain ⟨ca, cc, rfl, -, -, -, -⟩ := hv
  clear h hP h0 hw0 x0 bi hI ho hl hz hB hB' hcl hm hlv c0
  by_cases hcn : us.count < 9223372036854775807
  · have HSc : Hid (us.counted = { us with count := us.count + 1 }) := by unfold Hid US.counted; rw [if_pos hcn]
    go_enter Tryz.func69, Tryz.ntmps69
    go_wp2_with fail
    rw [← HW0.out]
    go_big_quiet ((first | (go_at_call 52; with_reducible refine Calls.quiet_of_same (HWk.out _)) | (go_at_call 53; with_reducible refine Calls.quiet_of_same (HLv.out _))))
    go_wp2_with fail
    have cA : Ch (fun g => g = b) (w0.drewN nq) ((w0.drewN nq).setCell ⟨b, 5, none⟩ (.int .i64 (us.count + 1))) := (Ch.refl _ _).set1 _ _
    have HA : Hid (UnitP (fun g => O g ∧ g < w.heap.size) m ((w0.drewN nq).setCell ⟨b, 5, none⟩ (.int .i64 (us.count + 1))) b bl be vv L us.counted rs) := by
      rw [HSc.out]
      exact (H0.out.drewN nq).own (us' := { us with count := us.count + 1 }) (by have := (H0.out.drewN nq).blk.set 5 (.int .i64 (us.count + 1)); simpa using this) cA (fun g hg _ => .inl hg) H0.out.oe H0.out.me (Blk.other (H0.out.drewN nq).lease H0.out.ne _ _) H0.out.copy
    have hbl : b < w.heap.size := HU.out.blk.lt
    have HXA : Hid (Blk ((w0.drewN nq).setCell ⟨b, 5, none⟩ (.int .i64 (us.count + 1))) (w.heap.size + 1) 36 #[.slice none 0 0, .slice none 0 0]) := cA.blk X0.out.drew (by omega)
    have sz0 : w0.heap.size = w.heap.size + 2 := by rw [HW0.out]; simp
    refine (cyc_any (fun g => (O g ∧ g < w.heap.size) ∧ m g = 1) (fun g => B g ∧ g < w.heap.size) (fun g => B' g ∧ g < w.heap.size) ((w0.drewN nq).setCell ⟨b, 5, none⟩ (.int .i64 (us.count + 1))) b bl L rs x1 x2 _ _ _ _ _ _ _ on occ lies cs HA.out.blk (fun h => by have h1 := h.2; rw [HU.out.mb] at h1; omega) (fun g hg => Nat.lt_of_lt_of_le hg.1.2 (Nat.le_trans C0.out.size cA.size)) HA.out.lock OK.out
      (((HI.out.mono fun g hg hl => ⟨hg, hl⟩).ch0 (C0.out.drewN nq)).ch cA (fun g hg _ e => HB.out g hg.1 (e ▸ HU.out.ob))) HOc.out HLi.out HZ.out (fun g hg h => HB.out g hg.1 h.1.1) (((HV.out.mono (B' := fun g => B' g ∧ g < w.heap.size) fun g hg hl => ⟨hg, hl⟩).ch0 (C0.out.drewN nq)).ch cA (fun g hg _ e => HB'.out g hg.1 (e ▸ HU.out.ob))) (fun g hg h => HB'.out g hg.1 h.1.1) HCl.out).mono ?_
    rintro e w3 ⟨u, d, p, rs2, rfl, ⟨v1, v2, rfl, hd, hp⟩, hk, hcy, c3⟩
    obtain ⟨e1, f1, rfl, -, -, -, -⟩ := id hd.sl
    obtain ⟨e2, f2, rfl, -, -, -, -⟩ := id hp.sl
    have HD : Hid (OutAt (New (w.heap.size + 2)) w3 (.agg #[.slice e1 d.length f1, .slice e2 p.length f2]) d p) := (show OutAt _ w3 _ d p from ⟨_, _, rfl, hd, hp⟩).mono fun g (hg : _ ≤ g) _ => (by have h1 := cA.size; have h2 : w0.heap.size ≤ g := Nat.le_trans h1 hg; show _ ≤ g; omega)
    have HCy := Lib.hid hcy
    have HX3 := Lib.hid (c3.blk HXA.out (fun h => by have := h.1.2; omega))
    have HU3 := Lib.hid (HA.out.stepLock1 hk c3)
    have C3 := Lib.hid c3
    have CA := Lib.hid cA
    clear hd hp hk hcy c3 cA
    have n0 := HX3.out.cell 0
    have n1 := HX3.out.cell 1
    have g0 := HX3.out.free 0
    have g1 := HX3.out.free 1
    go_wp2_with fail
    have hx : Blk ((w3.setCell ⟨w.heap.size + 1, 0, none⟩ (.slice e1 d.length f1)).setCell ⟨w.heap.size + 1, 1, none⟩ (.slice e2 p.length f2)) (w.heap.size + 1) 36 #[.slice e1 d.length f1, .slice e2 p.length f2] := by
      have := (HX3.out.set 0 (.slice e1 d.length f1)).set 1 (.slice e2 p.length f2); simpa using this
    have cx : Ch (fun g => g = w.heap.size + 1) w3 ((w3.setCell ⟨w.heap.size + 1, 0, none⟩ (.slice e1 d.length f1)).setCell ⟨w.heap.size + 1, 1, none⟩ (.slice e2 p.length f2)) := ((Ch.refl _ _).set1 _ _).set1 _ _
    have ho := (HD.out.ch cx (fun g (hg : _ ≤ g) _ e => by omega)).mono (O' := New w.heap.size) fun g (hg : _ ≤ g) _ => (by show _ ≤ g; omega)
    (try simp only [Exit.inBlock, Exit.then])
    refine bodyPost_ret (results_cell_row (P := Tryz.prog) rfl _ _ (w.heap.size + 1) _ _ _ _ rfl hx Tryz.underlying36 rfl (by kernel_rfl)) rfl ?_
    refine ⟨_, _, _, rs2, rfl, ho, HRs.out ▸ HCy.out, ⟨m, bl, be, vv, (HU3.out.ch cx (fun g hg _ e => by have := hg.2; omega)).mono fun g hg _ => hg.1⟩, ?_⟩
    exact ((((C0.out.mono fun _ _ h => h.elim).drewN nq).then CA.out fun g hl e => e ▸ HU.out.ob).then C3.out fun g hl h => h.1.1).then cx fun g hl e => by omega
  · have HSc : Hid (us.counted = us) := by unfold Hid US.counted; rw [if_neg hcn]
    have hcn' : us.count ≥ 9223372036854775807 := by omega
    clear hcn
    go_enter Tryz.func69, Tryz.ntmps69
    go_wp2_with fail
    rw [← HW0.out]
    go_big_quiet ((first | (go_at_call 52; with_reducible refine Calls.quiet_of_same (HWk.out _)) | (go_at_call 53; with_reducible refine Calls.quiet_of_same (HLv.out _))))
    go_wp2_with fail
    have cA : Ch (fun g => g = b) (w0.drewN nq) (w0.drewN nq) := Ch.refl _ _
    have HA : Hid (UnitP (fun g => O g ∧ g < w.heap.size) m (w0.drewN nq) b bl be vv L us.counted rs) := by
      rw [HSc.out]
      exact H0.out.drewN nq
    have hbl : b < w.heap.size := HU.out.blk.lt
    have HXA : Hid (Blk (w0.drewN nq) (w.heap.size + 1) 36 #[.slice none 0 0, .slice none 0 0]) := cA.blk X0.out.drew (by omega)
    have sz0 : w0.heap.size = w.heap.size + 2 := by rw [HW0.out]; simp
    refine (cyc_any (fun g => (O g ∧ g < w.heap.size) ∧ m g = 1) (fun g => B g ∧ g < w.heap.size) (fun g => B' g ∧ g < w.heap.size) (w0.drewN nq) b bl L rs x1 x2 _ _ _ _ _ _ _ on occ lies cs HA.out.blk (fun h => by have h1 := h.2; rw [HU.out.mb] at h1; omega) (fun g hg => Nat.lt_of_lt_of_le hg.1.2 (Nat.le_trans C0.out.size cA.size)) HA.out.lock OK.out
      (((HI.out.mono fun g hg hl => ⟨hg, hl⟩).ch0 (C0.out.drewN nq)).ch cA (fun g hg _ e => HB.out g hg.1 (e ▸ HU.out.ob))) HOc.out HLi.out HZ.out (fun g hg h => HB.out g hg.1 h.1.1) (((HV.out.mono (B' := fun g => B' g ∧ g < w.heap.size) fun g hg hl => ⟨hg, hl⟩).ch0 (C0.out.drewN nq)).ch cA (fun g hg _ e => HB'.out g hg.1 (e ▸ HU.out.ob))) (fun g hg h => HB'.out g hg.1 h.1.1) HCl.out).mono ?_
    rintro e w3 ⟨u, d, p, rs2, rfl, ⟨v1, v2, rfl, hd, hp⟩, hk, hcy, c3⟩
    obtain ⟨e1, f1, rfl, -, -, -, -⟩ := id hd.sl
    obtain ⟨e2, f2, rfl, -, -, -, -⟩ := id hp.sl
    have HD : Hid (OutAt (New (w.heap.size + 2)) w3 (.agg #[.slice e1 d.length f1, .slice e2 p.length f2]) d p) := (show OutAt _ w3 _ d p from ⟨_, _, rfl, hd, hp⟩).mono fun g (hg : _ ≤ g) _ => (by have h1 := cA.size; have h2 : w0.heap.size ≤ g := Nat.le_trans h1 hg; show _ ≤ g; omega)
    have HCy := Lib.hid hcy
    have HX3 := Lib.hid (c3.blk HXA.out (fun h => by have := h.1.2; omega))
    have HU3 := Lib.hid (HA.out.stepLock1 hk c3)
    have C3 := Lib.hid c3
    have CA := Lib.hid cA
    clear hd hp hk hcy c3 cA
    have n0 := HX3.out.cell 0
    have n1 := HX3.out.cell 1
    have g0 := HX3.out.free 0
    have g1 := HX3.out.free 1
    go_wp2_with fail
    have hx : Blk ((w3.setCell ⟨w.heap.size + 1, 0, none⟩ (.slice e1 d.length f1)).setCell ⟨w.heap.size + 1, 1, none⟩ (.slice e2 p.length f2)) (w.heap.size + 1) 36 #[.slice e1 d.length f1, .slice e2 p.length f2] := by
      have := (HX3.out.set 0 (.slice e1 d.length f1)).set 1 (.slice e2 p.length f2); simpa using this
    have cx : Ch (fun g => g = w.heap.size + 1) w3 ((w3.setCell ⟨w.heap.size + 1, 0, none⟩ (.slice e1 d.length f1)).setCell ⟨w.heap.size + 1, 1, none⟩ (.slice e2 p.length f2)) := ((Ch.refl _ _).set1 _ _).set1 _ _
    have ho := (HD.out.ch cx (fun g (hg : _ ≤ g) _ e => by omega)).mono (O' := New w.heap.size) fun g (hg : _ ≤ g) _ => (by show _ ≤ g; omega)
    (try simp only [Exit.inBlock, Exit.then])
    refine bodyPost_ret (results_cell_row (P := Tryz.prog) rfl _ _ (w.heap.size + 1) _ _ _ _ rfl hx Tryz.underlying36 rfl (by kernel_rfl)) rfl ?_
    refine ⟨_, _, _, rs2, rfl, ho, HRs.out ▸ HCy.out, ⟨m, bl, be, vv, (HU3.out.ch cx (fun g hg _ e => by have := hg.2; omega)).mono fun g hg _ => hg.1⟩, ?_⟩
    exact ((((C0.out.mono fun _ _ h => h.elim).drewN nq).then CA.out fun g hl e => e ▸ HU.out.ob).then C3.out fun g hl h => h.1.1).then cx fun g hl e => by omega
end Go.Proofs.YtkplgggdidhnoaaGreatDoor

namespace Go.Proofs.YtkplgggdidhnoaaGreatDoor
open Go.ChangeShapes Go.WideShapes Go.ChangeAt Go.RowKit
set_option linter.unusedVariables false

theorem pack_p (O : Nat → Prop) (w : World) (p : Value) (h : p = .pointer none ∨ ∃ b xs, p = .pointer (some ⟨b, 0, none⟩) ∧ CrateAt O w b xs) :
    Calls Tryz.prog 92 #[p] w fun e w' => ∃ (v : Value) (n : Nat) (vs : List Value) (er : Int), e = .returned (.tuple #[v, .int .i64 er]) ∧ n ≤ 60000 ∧ SlB (New w.heap.size) w' v n vs ∧ Ch Noone w w' := by
  rcases h with rfl | ⟨b, xs, rfl, h⟩
  · refine (pack_nil w).mono ?_
    rintro e w' ⟨rfl, rfl⟩
    exact ⟨_, 0, [], 1, rfl, by omega, SlB.nil _ _, Ch.refl _ _⟩
  · refine (pack_any O w b xs h).mono ?_
    rintro e w' ⟨v, n, vs, er, rfl, hn, ho, hb, hc⟩
    exact ⟨v, n, vs, er, rfl, hn, ⟨ho.sl, by have := ho.1; simpa using this, hb⟩, hc⟩

/-- Send of one that is not Active. -/
theorem unit_send_any (O : Nat → Prop) (w : World) (b : Nat) (L : Lay) (us : US) (rs : List RS) (h : UnitAt O w b L us rs) (ok : LayOk L) :
    Calls Tryz.prog 73 #[.pointer (some ⟨b, 0, none⟩)] w fun r w' => ∃ (v : Value) (n : Nat) (vs : List Value), r = .returned v ∧ n ≤ 60000 ∧ SlB (New w.heap.size) w' v n vs ∧ (us.mode ≠ 3 → n = 0) ∧ Ch Noone w w' := by
  by_cases hm : us.mode = 3
  · obtain ⟨m, bl, be, vv, h⟩ := h
    have HU := Lib.hid h
    have OK := Lib.hid ok
    have HM := Lib.hid hm
    have l3 := h.blk.cells7.2.2.2.1
    rw [hm] at l3
    have HRl : Hid (rs.length ≤ 20) := by have h1 := ok.r1; have h2 := h.lock.2.1.len; show _ ≤ _; omega
    have HS : Hid (∀ W', Ch Noone w W' → W'.cell? ⟨b, 0, none⟩ = some (.pointer (some ⟨bl, 0, none⟩)) ∧ W'.cell? ⟨b, 1, none⟩ = some (.pointer (some ⟨be, 0, none⟩)) ∧ W'.cell? ⟨b, 5, none⟩ = some (.int .i64 us.count)) := fun W' c => by
      have k := c.blk HU.out.blk (fun h => h)
      exact ⟨k.cell 0, k.cell 1, k.cell 5⟩
    have HE : Hid (∀ W', Ch Noone w W' → _) := fun W' c => lease_epoch W' be us.ep us.en us.gr (c.blk HU.out.lease (fun h => h))
    have HR : Hid (∀ W', Ch Noone w W' → _) := fun W' c => lock_routes _ W' _ _ _ (HU.out.lock.ch0 c) OK.out
    clear h ok hm
    go_enter Tryz.func73, Tryz.ntmps73
    go_wp2_with fail
    go_region_held3 (fun W' => W'.cell? ⟨b, 0, none⟩ = some (.pointer (some ⟨bl, 0, none⟩)) ∧ W'.cell? ⟨b, 1, none⟩ = some (.pointer (some ⟨be, 0, none⟩)) ∧ W'.cell? ⟨b, 5, none⟩ = some (.int .i64 us.count))
      (first | exact HS.out _ C2.out | exact HS.out _ C1.out | exact HS.out _ CC.out | exact HS.out _ ((Ch.refl _ _).drew))
      (first
        | (go_at_call 101; refine (HE.out _ (by first | exact CC.out | exact (Ch.refl _ _).drew)).mono ?_; rintro e w2 ⟨rfl, rfl⟩)
        | (go_at_call 60; refine (HR.out _ ((Ch.refl _ _).drew)).mono ?_; rintro e w3 ⟨v, rfl, hv, hc⟩; obtain ⟨a, c, rfl, -, -, -, -⟩ := id hv.sl; have CC : Hid (Ch Noone w w3) := (Ch.refl _ _).drew.trans hc; have HV := Lib.hid hv.sl; clear hv hc)
        | (go_at_call 107; refine (lay_any _ _ us.ep us.count _ rs HV.out HRl.out).mono ?_; rintro e w4 ⟨p, rfl, hp, hc⟩; have C1 : Hid (Ch Noone w w4) := CC.out.trans hc; have HPp := Lib.hid hp; clear hp hc)
        | (go_at_call 92; refine (pack_p _ _ _ HPp.out).mono ?_; rintro e w5 ⟨v, n, vs, er, rfl, hn, hs, hc⟩; have C2 : Hid (Ch Noone w w5) := C1.out.trans hc; have HN := Lib.hid hn; have HSB : Hid (SlB (New w.heap.size) w5 v n vs) := ⟨hs.sl.mono fun g (hg : _ ≤ g) _ => Nat.le_trans C1.out.size hg, hs.len, hs.by'⟩; clear hn hs hc))
    all_goals
      go_wp2_with fail
      go_ret
      exact ⟨v, n, vs, rfl, HN.out, HSB.out, fun h => absurd HM.out h, C2.out⟩
  · obtain ⟨m, bl, be, vv, h⟩ := h
    have l3 := h.blk.cells7.2.2.2.1
    have hm' : (us.mode != 3) = true := by simpa using hm
    clear h hm
    go_enter Tryz.func73, Tryz.ntmps73
    go_wp2_with fail
    go_ret
    exact ⟨_, 0, [], rfl, by omega, SlB.nil _ _, fun _ => rfl, Ch.refl _ _⟩
end Go.Proofs.YtkplgggdidhnoaaGreatDoor

namespace Go.Proofs.YtkplgggdidhnoaaGreatDoor
open Go.ChangeShapes Go.WideShapes Go.ChangeAt Go.RowKit
set_option linter.unusedVariables false

/-- What a unit's cycle does, and what the field is told. -/
def US.Cyc (u : US) (L : Lay) (occ : List Bool) (lies : List Int) (on : Bool) (cs : List Cmd) (u' : US) (d : List Int) (q : List Bool) : Prop :=
  (((u.works && live u.en u.gr u.tick) = true → u.mode ≠ 3) ∧ u' = u.cyc ∧ d = List.replicate L.pts.length 0 ∧ q = List.replicate L.sigs.length false) ∨
  (u.mode = 3 ∧ live u.en u.gr u.tick = true ∧ ∃ r2, CycR L occ lies on cs u.rs r2 d q ∧ u' = { u.counted with rs := r2 })
theorem CycR.rng {L : Lay} {occ : List Bool} {lies : List Int} {on : Bool} {cs : List Cmd} {a b : List RS} {d : List Int} {q : List Bool} (h : CycR L occ lies on cs a b d q) :
    d.length = L.pts.length ∧ q.length = L.sigs.length ∧ ∀ x ∈ d, 0 ≤ x ∧ x ≤ 2 := by
  obtain ⟨r1, -, -, h1, h2⟩ := h
  have hz : ∀ x ∈ List.replicate L.pts.length (0 : Int), 0 ≤ x ∧ x ≤ 2 := fun x hx => by rw [List.eq_of_mem_replicate hx]; omega
  cases on
  · obtain ⟨rfl, rfl⟩ := h2 rfl
    exact ⟨List.length_replicate, List.length_replicate, hz⟩
  · obtain ⟨h3, h4⟩ := h1 rfl
    exact ⟨h3.len.trans List.length_replicate, h4.len.trans List.length_replicate, h3.rng hz⟩
theorem US.Cyc.rng {u : US} {L : Lay} {occ : List Bool} {lies : List Int} {on : Bool} {cs : List Cmd} {u' : US} {d : List Int} {q : List Bool} (h : u.Cyc L occ lies on cs u' d q) :
    d.length = L.pts.length ∧ q.length = L.sigs.length ∧ ∀ x ∈ d, 0 ≤ x ∧ x ≤ 2 := by
  rcases h with ⟨_, _, rfl, rfl⟩ | ⟨_, _, r2, h, _⟩
  · exact ⟨List.length_replicate, List.length_replicate, fun x hx => by rw [List.eq_of_mem_replicate hx]; omega⟩
  · exact h.rng

theorem unit_cycle_any (O B B' : Nat → Prop) (w : World) (b : Nat) (L : Lay) (us : US) (rs : List RS) (x1 x2 vc : Value) (on : Bool) (occ : List Bool) (lies : List Int) (cs : List Cmd) (h : UnitAt O w b L us rs) (ok : LayOk L)
    (k0 : -9223372036854775808 ≤ us.count) (k1 : -30000 ≤ us.left) (k2 : us.left ≤ 30000)
    (hI : InR B w (.agg #[x1, x2]) occ lies) (ho : occ.length = L.secs.length) (hl : lies.length = L.pts.length) (hz : ∀ x ∈ lies, 0 ≤ x ∧ x ≤ 2) (hB : ∀ g, B g → ¬ O g)
    (hv : Sl B' w vc cs.length (cs.flatMap fCmd)) (hB' : ∀ g, B' g → ¬ O g) (hcl : cs.length ≤ 1000) :
    Calls Tryz.prog 69 #[.pointer (some ⟨b, 0, none⟩), .agg #[x1, x2], .bool on, vc] w fun r w' => ∃ v d q u' rs', r = .returned v ∧ OutAt (New w.heap.size) w' v d q ∧ us.Cyc L occ lies on cs u' d q ∧ UnitAt O w' b L u' rs' ∧ Ch O w w' := by
  by_cases hm : (us.works && live us.en us.gr us.tick) = true → us.mode ≠ 3
  · refine (unit_cycle0 O w b L us rs x1 x2 vc on h ok hm k0 k1 k2).mono ?_
    rintro e w' ⟨⟨v, rfl, h1⟩, h2, h3⟩
    exact ⟨v, _, _, _, rs, rfl, h1, .inl ⟨hm, rfl, rfl, rfl⟩, h2, h3⟩
  · have hm3 : us.mode = 3 := Classical.byContradiction fun h => hm fun _ => h
    have hlv : live us.en us.gr us.tick = true := Classical.byContradiction fun h => hm fun h2 => absurd (Bool.and_eq_true_iff.1 h2).2 h
    refine (unit_cycle3 O B B' w b L us rs x1 x2 vc on occ lies cs h ok hm3 hlv k0 hI ho hl hz hB hv hB' hcl).mono ?_
    rintro e w' ⟨v, d, q, r2, rfl, h1, h2, h3, h4⟩
    exact ⟨v, d, q, _, r2, rfl, h1, .inr ⟨hm3, hlv, r2, h2, rfl⟩, h3, h4⟩
end Go.Proofs.YtkplgggdidhnoaaGreatDoor
