/-
  The contract of pair: Cycle, where nothing was told and no unit is Active. Conditions: sizes.
-/
import Derived.Test.YtkplgggdidhnoaaGreatDoorM19
namespace Go.Proofs.YtkplgggdidhnoaaGreatDoor
open Go.ChangeShapes Go.WideShapes Go.ChangeAt Go.RowKit
set_option linter.unusedVariables false

/-- A pair at the beginning of its next cycle. -/
def PS.next (ps : PS) : PS := { ps with now := ps.now + 1, re := ps.re.begin (ps.now + 1) }
def PS.ticked (es : List Ev) (ps : PS) : PS := { ps with u0 := ps.u0.tk (es.any (evB 3 0)), u1 := ps.u1.tk (es.any (evB 3 1)) }
/-- A pair that has come as far as asking. -/
def PS.Upto (es : List Ev) (ps ps4 : PS) : Prop := ∃ ps2, PS.Fold PS.Hap es ps.next ps2 ∧ PS.Fold PS.Yl1 es (ps2.ticked es) ps4
/-- A pair whose units have asked. -/
def PS.Asked (es : List Ev) (ps4 ps5 : PS) : Prop :=
  if (ps4.now + 1).tmod 2 = 0 then
    ∃ u0' re1 u1' re2, AskRel ps4.u0 ps4.re 0 (es.any (evB 4 0)) u0' re1 ∧ AskRel ps4.u1 re1 1 (es.any (evB 4 1)) u1' re2 ∧ ps5 = { ps4 with u0 := u0', u1 := u1', re := re2 }
  else
    ∃ u0' re1 u1' re2, AskRel ps4.u1 ps4.re 1 (es.any (evB 4 1)) u1' re1 ∧ AskRel ps4.u0 re1 0 (es.any (evB 4 0)) u0' re2 ∧ ps5 = { ps4 with u0 := u0', u1 := u1', re := re2 }
structure OkAsk (ps : PS) : Prop where
  c0 : ps.u0.cp = none
  c1 : ps.u1.cp = none
  t0 : 0 ≤ ps.u0.tick ∧ ps.u0.tick ≤ 30000
  t1 : 0 ≤ ps.u1.tick ∧ ps.u1.tick ≤ 30000
  e : 0 ≤ ps.re.epoch ∧ ps.re.epoch ≤ 29000
structure OkTick (ps : PS) : Prop where
  t0 : 0 ≤ ps.u0.tick ∧ ps.u0.tick ≤ 30000
  t1 : 0 ≤ ps.u1.tick ∧ ps.u1.tick ≤ 30000
  n : 0 ≤ ps.re.now ∧ ps.re.now ≤ 30000
structure OkTell (ps : PS) : Prop where
  m0 : ps.u0.Mild
  m1 : ps.u1.Mild
  n0 : ps.u0.cyc.mode ≠ 3
  n1 : ps.u1.cyc.mode ≠ 3

theorem fold_keep {R : Ev → PS → PS → Prop} {P : PS → PS → Prop} (hr : ∀ a, P a a) (ht : ∀ a b c, P a b → P b c → P a c) (h1 : ∀ e a b, R e a b → P a b) : ∀ {es : List Ev} {a b : PS}, PS.Fold R es a b → P a b
  | [], a, b, h => by
    have e : b = a := h
    subst e; exact hr _
  | e :: es, a, c, ⟨b, h2, h3⟩ => ht a b c (h1 e a b h2) (fold_keep hr ht h1 h3)
theorem hap_keep {es : List Ev} {a b : PS} (h : PS.Fold PS.Hap es a b) : b.re = a.re ∧ b.ln = a.ln ∧ b.now = a.now :=
  fold_keep (P := fun a b => b.re = a.re ∧ b.ln = a.ln ∧ b.now = a.now) (fun _ => ⟨rfl, rfl, rfl⟩) (fun a b c h k => ⟨k.1.trans h.1, k.2.1.trans h.2.1, k.2.2.trans h.2.2⟩) (fun e a b h => h.2.2) h
theorem yl1_keep {e : Ev} {a b : PS} (h : PS.Yl1 e a b) : b.ln = a.ln ∧ b.now = a.now ∧ b.re.now = a.re.now ∧ b.re.epoch = a.re.epoch := by
  unfold PS.Yl1 at h
  split at h
  · subst h
    refine ⟨rfl, rfl, ?_, ?_⟩ <;> (dsimp only; split <;> first | rfl | (unfold St.yield; split <;> rfl))
  · split at h
    · subst h
      refine ⟨rfl, rfl, ?_, ?_⟩ <;> (dsimp only; split <;> first | rfl | (unfold St.yield; split <;> rfl))
    · subst h; exact ⟨rfl, rfl, rfl, rfl⟩
theorem yl_keep {es : List Ev} {a b : PS} (h : PS.Fold PS.Yl1 es a b) : b.ln = a.ln ∧ b.now = a.now ∧ b.re.now = a.re.now ∧ b.re.epoch = a.re.epoch :=
  fold_keep (P := fun a b => b.ln = a.ln ∧ b.now = a.now ∧ b.re.now = a.re.now ∧ b.re.epoch = a.re.epoch) (fun _ => ⟨rfl, rfl, rfl, rfl⟩) (fun a b c h k => ⟨k.1.trans h.1, k.2.1.trans h.2.1, k.2.2.1.trans h.2.2.1, k.2.2.2.trans h.2.2.2⟩) (fun e a b h => yl1_keep h) h
theorem drive_ok {p : Pt} {to : Int} (h : 0 ≤ p.steps ∧ p.steps ≤ 1000) : 0 ≤ (p.drive to).steps ∧ (p.drive to).steps ≤ 1000 := by
  obtain ⟨h0, h1⟩ := h
  unfold Pt.drive
  repeat' split
  all_goals (refine ⟨?_, ?_⟩ <;> first | omega | (dsimp only; omega))
theorem stepped_ok {dr : List Int} {a b : List Pt} (h : Stepped dr a b) (hp : ∀ p ∈ a, 0 ≤ p.steps ∧ p.steps ≤ 1000) : ∀ p ∈ b, 0 ≤ p.steps ∧ p.steps ≤ 1000 := by
  intro q hq
  obtain ⟨i, hi, rfl⟩ := List.mem_iff_getElem.1 hq
  have hi' : i < a.length := by rw [← h.1]; exact hi
  have h1 := hp _ (List.getElem_mem hi')
  rw [h.2 i hi' hi]
  split
  · exact drive_ok h1
  · exact h1

theorem ask_epoch {u u' : US} {re re' : St} {i : Int} {d : Bool} (h : AskRel u re i d u' re') (he : 0 ≤ re.epoch ∧ re.epoch ≤ 29000) : 0 ≤ re'.epoch ∧ re'.epoch ≤ 30000 := by
  rcases h with ⟨_, _, rfl⟩ | ⟨_, _, rfl, _⟩
  · exact ⟨he.1, by omega⟩
  · unfold St.ask
    obtain ⟨h0, h1⟩ := he
    repeat' split
    all_goals (refine ⟨?_, ?_⟩ <;> (dsimp only; omega))
theorem asked_keep {es : List Ev} {a b : PS} (h : PS.Asked es a b) : b.ln = a.ln ∧ b.now = a.now := by
  unfold PS.Asked at h
  split at h
  all_goals (obtain ⟨_, _, _, _, _, _, rfl⟩ := h; exact ⟨rfl, rfl⟩)
/-- What the walk carries on from one part of the cycle to the next: rb is the block of the result. -/
structure Here (m : Nat → Nat) (w : World) (p a0 a1 r k f s : Nat) (L : Lay) (rb : Nat) (m1 : Nat → Nat) (wr : World) (ps1 : PS) : Prop where
  a : Agree w m m1
  p : PairP m1 wr p a0 a1 r k f s L ps1
  c : Ch (Mine m) w wr
  b : Blk wr rb 36 #[.slice none 0 0, .slice none 0 0]
  l : m1 rb = 9
section
variable {m m1 : Nat → Nat} {w wr w2 : World} {p a0 a1 r k f s : Nat} {L : Lay} {rb : Nat} {ps1 : PS}
theorem Here.step {R : PS → Prop} (h : Here m w p a0 a1 r k f s L rb m1 wr ps1) (h' : PStep m1 wr p a0 a1 r k f s L w2 R) : ∃ m2 ps2, R ps2 ∧ Here m w p a0 a1 r k f s L rb m2 w2 ps2 := by
  obtain ⟨m2, ps2, a2, h2, hr, c2⟩ := h'
  have hb := h.b.keep h.l c2 a2
  exact ⟨m2, ps2, hr, h.a.trans a2 h.c.size, h2, h.c.next h.a c2, hb.1, hb.2⟩
theorem Here.pure (h : Here m w p a0 a1 r k f s L rb m1 wr ps1) (c : Ch Noone wr w2) : ∃ m2, Here m w p a0 a1 r k f s L rb m2 w2 ps1 := by
  obtain ⟨m2, ps2, e, h2⟩ := h.step (R := fun x => x = ps1) ⟨_, ps1, Agree.lab _ _ _, h.p.pure c, rfl, c.mineNo⟩
  exact ⟨m2, e ▸ h2⟩
theorem Here.sl (h : Here m w p a0 a1 r k f s L rb m1 wr ps1) {v : Value} {n : Nat} {vs : List Value} (hv : Sl (fun g => m g = 9) w v n vs) : Sl (fun g => m1 g = 9) wr v n vs := hv.keep h.c h.a
end

set_option maxRecDepth 100000 in
set_option maxHeartbeats 8000000 in
theorem pair_cycle0 {m : Nat → Nat} {w : World} {p a0 a1 r k f s : Nat} {L : Lay} {ps : PS} (v : Value) (es : List Ev) (hv : Sl (fun g => m g = 9) w v es.length (es.flatMap fEv)) (hl : es.length ≤ 8) (h : PairP m w p a0 a1 r k f s L ps) (ok : LayOk L) (hln : ps.ln = LS.new)
    (n0 : 0 ≤ ps.now) (n1 : ps.now ≤ 20000) (ro : ps.re.Ok) (rn : ps.re.now = ps.now)
    (h2 : ∀ ps2, PS.Fold PS.Hap es ps.next ps2 → OkTick ps2) (h4 : ∀ ps4, PS.Upto es ps ps4 → OkAsk ps4) (h5 : ∀ ps4 ps5, PS.Upto es ps ps4 → PS.Asked es ps4 ps5 → OkTell ps5) :
    Calls Tryz.prog 9 #[.pointer (some ⟨p, 0, none⟩), v] w fun x w' => ∃ v1 v2 m' ps' ps4 ps5, x = .returned (.agg #[v1, v2]) ∧ OutAt (fun g => m' g = 9) w' (.agg #[v1, v2]) (zeros L.pts.length) (nots L.sigs.length) ∧
      Agree w m m' ∧ PairP m' w' p a0 a1 r k f s L ps' ∧ Ch (Mine m) w w' ∧ PS.Upto es ps ps4 ∧ PS.Asked es ps4 ps5 ∧ ps'.u0 = ps5.u0.cyc ∧ ps'.u1 = ps5.u1.cyc ∧ ps'.re = ps5.re ∧ ps'.ln = LS.new ∧ ps'.now = ps.now + 1 := by
  have HV := Lib.hid hv
  have HP := Lib.hid h
  have OK := Lib.hid ok
  have HL := Lib.hid hln
  have RO := Lib.hid ro
  have RN := Lib.hid rn
  have H2 := Lib.hid h2
  have H4 := Lib.hid h4
  have H5 := Lib.hid h5
  obtain ⟨av, cv, rfl, k1, -, -, -⟩ := hv
  obtain ⟨w0, hw0⟩ : ∃ w0, w0 = (w.setCell ⟨p, 6, none⟩ (.int .i64 (ps.now + 1))).alloc (.cells #[.slice none 0 0, .slice none 0 0] 36) := ⟨_, rfl⟩
  have hpw := h.blk.lt
  have hmin : min (es.length : Int) 8 = es.length := by omega
  have hsz : (w.setCell ⟨p, 6, none⟩ (.int .i64 (ps.now + 1))).heap.size = w.heap.size := by simp [World.setCell]
  have hnow := (h.stepNow (ps.now + 1)).pure ((Ch.refl Noone _).alloc (.cells #[.slice none 0 0, .slice none 0 0] 36))
  rw [← hw0] at hnow
  have cw0 : Ch (Mine m) w w0 := by
    rw [hw0]
    exact (Ch.set (S := Mine m) (Ch.refl _ w) (b := p) (fun _ => by show m p ≤ 6; rw [h.mp]; decide) 6 (.int .i64 (ps.now + 1))).alloc _
  have hrb0 : Blk w0 w.heap.size 36 #[.slice none 0 0, .slice none 0 0] := by rw [hw0]; exact Blk.newk _ _ hsz.symm _ _
  have hA0 : Agree w m (lab (lab m w.heap.size 0) (w.setCell ⟨p, 6, none⟩ (.int .i64 (ps.now + 1))).heap.size 9) := (Agree.lab w m 0).trans (Agree.lab _ _ _) (by omega)
  have hrm : lab (lab m w.heap.size 0) (w.setCell ⟨p, 6, none⟩ (.int .i64 (ps.now + 1))).heap.size 9 w.heap.size = 9 := lab_ge (by omega)
  generalize lab (lab m w.heap.size 0) (w.setCell ⟨p, 6, none⟩ (.int .i64 (ps.now + 1))).heap.size 9 = m1 at *
  have HH0 : Hid (Here m w p a0 a1 r k f s L w.heap.size m1 w0 { ps with now := ps.now + 1 }) := ⟨hA0, hnow, cw0, hrb0, hrm⟩
  have HW0 := Lib.hid hw0
  have HBg := Lib.hid (relay_begin w0.drew r ps.re (ps.now + 1) hnow.relay ro)
  obtain ⟨-, -, l2, -, -, -, l6⟩ := h.cells
  have f6 := h.blk.free 6
  clear hln ro rn h2 h4 h5 h ok hnow hw0 cw0 hrb0 hA0 hrm hsz
  go_enter Tryz.func9, Tryz.ntmps9
  go_wp2_with fail
  rw [← HW0.out]
  clear l2 l6 f6
  obtain ⟨-, -, l2, -, -, -, l6⟩ := HH0.out.p.cells
  dsimp only at l6
  go_still_tail 8, (by kernel_rfl)
  change wpList _ _ _ _ _ w0.drew
  go_wp2_with fail
  refine HBg.out.mono ?_
  rintro x w1 ⟨rfl, hre, cr⟩
  have cr' : Ch (fun g => g = r) w0 w1 := (Ch.refl _ _).drew.trans cr
  obtain ⟨m2, ps2, hps2, hh1⟩ := HH0.out.step (R := fun x => x = ps.next) ⟨_, _, Agree.lab _ _ _, HH0.out.p.stepRelay cr' hre, rfl, cr'.mono fun g _ e => by show m1 g ≤ 6; rw [e, HH0.out.p.mr]; decide⟩
  rw [hps2] at hh1
  have HH1 := Lib.hid hh1
  clear hh1 hps2 hre cr cr' l2 l6 HBg
  go_wp2_with fail
  go_loopw [39] (fun i wr => ∃ (j : Nat) (m2 : Nat → Nat) (ps2 : PS), j ≤ es.length ∧ i = .int .i64 j ∧ Here m w p a0 a1 r k f s L w.heap.size m2 wr ps2 ∧ PS.Fold PS.Hap (es.take j) ps.next ps2) (fun i _ => (es.length - intOf i).toNat)
  case atStart => exact ⟨0, m2, ps.next, by omega, rfl, HH1.out, rfl⟩
  case round =>
    clear HH1
    obtain ⟨j, m2, ps2, hj, rfl, hh, hfo⟩ := hrel
    have HH := Lib.hid hh
    have HF := Lib.hid hfo
    clear hh hfo
    by_cases hjl : j < es.length
    · obtain ⟨b, off, rfl, hb9, hbw, hat⟩ := (HH.out.sl HV.out).at (f := fEv) (C := 5) (fun _ => rfl) (by omega) hjl
      have y0 : wr.cell? ⟨b, off + j * 5, none⟩ = some (.int .i64 es[j].kind) := hat 0 (by omega)
      have y1 : wr.cell? ⟨b, off + j * 5 + 1, none⟩ = some (.int .i64 es[j].unit) := hat 1 (by omega)
      have y2 : wr.cell? ⟨b, off + j * 5 + 2, none⟩ = some (.int .i64 es[j].n) := hat 2 (by omega)
      have y3 : wr.cell? ⟨b, off + j * 5 + 3, none⟩ = some (.int .i64 es[j].ck) := hat 3 (by omega)
      have y4 : wr.cell? ⟨b, off + j * 5 + 4, none⟩ = some (.int .i64 es[j].cr) := hat 4 (by omega)
      have HTk : Hid (∀ ps3, PS.Hap es[j] ps2 ps3 → PS.Fold PS.Hap (es.take (j + 1)) ps.next ps3) := fun ps3 h2 => by
        rw [List.take_succ_eq_append_getElem hjl]
        exact HF.out.snoc h2
      have hj0 : (0 : Int) ≤ j := by omega
      have hj1 : (j : Int) < es.length := by omega
      clear hat HF
      generalize es[j] = e at *
      obtain ⟨w3, hw3⟩ : ∃ w3, w3 = wr.alloc (.cells #[.int .i64 e.kind, .int .i64 e.unit, .int .i64 e.n, .int .i64 e.ck, .int .i64 e.cr] 52) := ⟨_, rfl⟩
      obtain ⟨m3, hh3⟩ := HH.out.pure (w2 := w3) (by rw [hw3]; exact (Ch.refl _ _).alloc _)
      have HW3 := Lib.hid hw3
      have HH3 := Lib.hid hh3
      have HHap := Lib.hid (pair_happens e hh3.p OK.out)
      unfold evAgg at HHap
      clear hw3 hh3
      go_wp2_with fail
      rw [← HW3.out]
      refine HHap.out.mono ?_
      rintro x w4 ⟨rfl, hst⟩
      obtain ⟨m4, ps4, hr4, hh4⟩ := HH3.out.step hst
      have HH4 := Lib.hid hh4
      have HR4 := Lib.hid hr4
      clear hst hh4 hr4
      go_wp2_with fail
      go_roundw
      case rel => exact ⟨j + 1, m4, ps4, by omega, by go_num, HH4.out, HTk.out _ HR4.out⟩
      case measure => simp [intOf]; omega
    · rw [List.take_of_length_le (by omega)] at HF

      have hkeep := hap_keep HF.out
      have HLn : Hid (ps2.ln = LS.new) := by
        have h := hkeep.2.1
        exact h.trans HL.out
      clear hkeep
      have HTO := Lib.hid (H2.out _ HF.out)
      have ix0 : ∀ w, (Instr.index 71 (.agg #[.pointer (some ⟨a0, 0, none⟩), .pointer (some ⟨a1, 0, none⟩)]) (.int .i64 0)).run Tryz.prog w = .ok (.pointer (some ⟨a0, 0, none⟩)) w := fun _ => by kernel_rfl
      have ix1 : ∀ w, (Instr.index 71 (.agg #[.pointer (some ⟨a0, 0, none⟩), .pointer (some ⟨a1, 0, none⟩)]) (.int .i64 1)).run Tryz.prog w = .ok (.pointer (some ⟨a1, 0, none⟩)) w := fun _ => by kernel_rfl
      obtain ⟨l0, l1, -, -, -, -, -⟩ := HH.out.p.cells
      go_wp2_with fail
      clear l0 l1
      go_loopw [51] (fun i wq => ∃ (m3 : Nat → Nat) (ps3 : PS), ((i = .int .i64 0 ∧ ps3 = ps2) ∨ (i = .int .i64 1 ∧ ps3 = { ps2 with u0 := ps2.u0.tk (es.any (evB 3 0)) }) ∨ (i = .int .i64 2 ∧ ps3 = ps2.ticked es)) ∧ Here m w p a0 a1 r k f s L w.heap.size m3 wq ps3) (fun i _ => (2 - intOf i).toNat)
      case atStart => exact ⟨m2, ps2, .inl ⟨rfl, rfl⟩, HH.out⟩
      case round =>
        clear HH
        obtain ⟨m3, ps3, hi, hh⟩ := hrel
        have HH := Lib.hid hh
        clear hh
        rcases hi with ⟨rfl, hps⟩ | ⟨rfl, hps⟩ | ⟨rfl, hps⟩
        all_goals
          rw [hps] at HH
          clear hps
        · have HOf := Lib.hid (pair_of _ wr _ es 3 0 (HH.out.sl HV.out) (by omega))
          go_wp2_with fail
          refine HOf.out.mono ?_
          rintro x w4 ⟨rfl, c4⟩
          obtain ⟨m4, hh4⟩ := HH.out.pure c4
          have HH4 := Lib.hid hh4
          obtain ⟨rs4, hu4⟩ := hh4.p.u0
          have HTi := Lib.hid (unit_tick _ w4 _ L ps2.u0 rs4 (es.any (evB 3 0)) hu4 OK.out HTO.out.t0.1 HTO.out.t0.2)
          clear hh4 hu4 HOf
          go_wp2_with fail
          refine HTi.out.mono ?_
          rintro x w5 ⟨rfl, ⟨rs5, -, hu5⟩, c5⟩
          obtain ⟨m5, ps5, hps5, hh5⟩ := HH4.out.step (R := fun x => x = { ps2 with u0 := ps2.u0.tk (es.any (evB 3 0)) }) ⟨_, _, Agree.lab _ _ _, HH4.out.p.stepU0 c5 ⟨_, hu5⟩, rfl, c5.mine (by decide)⟩
          rw [hps5] at hh5
          have HH5 := Lib.hid hh5
          obtain ⟨-, -, -, l3, -, -, -⟩ := hh5.p.cells
          have hlk := hh5.p.link
          have HTk2 := Lib.hid (link_take _ w5 k ps2.ln 0 (by decide) hlk)
          clear hh5 hps5 hu5 c5 HTi hlk
          go_wp2_with fail
          refine HTk2.out.mono ?_
          rintro x w6 ⟨⟨vb, rfl, hvb⟩, hl6, c6⟩
          rw [HLn.out] at hvb hl6
          have hnew : LS.take LS.new 0 = LS.new := rfl
          rw [hnew] at hl6
          obtain ⟨m6, ps6, hps6, hh6⟩ := HH5.out.step (R := fun x => x = { ps2 with u0 := ps2.u0.tk (es.any (evB 3 0)) }) ⟨_, _, Agree.lab _ _ _, HH5.out.p.stepLink c6 (hl6.mono fun g hg _ => .inl hg), by rw [← HLn.out] <;> rfl, c6.mine (by decide)⟩
          rw [hps6] at hh6
          have HH6 := Lib.hid hh6
          obtain ⟨rs6, hu6⟩ := hh6.p.u0
          obtain ⟨ab, cb, rfl, -, -, -, -⟩ := hvb
          have HHe := Lib.hid (unit_hear0 _ w6 _ L _ rs6 ab _ cb hu6 (.inr (show (LS.came LS.new 0).length ≤ 6 from by decide)))
          clear hh6 hps6 hu6 hl6 c6 HTk2 l3
          go_wp2_with fail
          refine HHe.out.mono ?_
          rintro x w7 ⟨rfl, rfl⟩
          go_wp2_with fail
          go_roundw
          case rel => exact ⟨m6, _, .inr (.inl ⟨rfl, rfl⟩), HH6.out⟩
          case measure => simp [intOf]
        · have HOf := Lib.hid (pair_of _ wr _ es 3 1 (HH.out.sl HV.out) (by omega))
          go_wp2_with fail
          refine HOf.out.mono ?_
          rintro x w4 ⟨rfl, c4⟩
          obtain ⟨m4, hh4⟩ := HH.out.pure c4
          have HH4 := Lib.hid hh4
          obtain ⟨rs4, hu4⟩ := hh4.p.u1
          have HTi := Lib.hid (unit_tick _ w4 _ L ps2.u1 rs4 (es.any (evB 3 1)) hu4 OK.out HTO.out.t1.1 HTO.out.t1.2)
          clear hh4 hu4 HOf
          go_wp2_with fail
          refine HTi.out.mono ?_
          rintro x w5 ⟨rfl, ⟨rs5, -, hu5⟩, c5⟩
          obtain ⟨m5, ps5, hps5, hh5⟩ := HH4.out.step (R := fun x => x = ps2.ticked es) ⟨_, _, Agree.lab _ _ _, HH4.out.p.stepU1 c5 ⟨_, hu5⟩, rfl, c5.mine (by decide)⟩
          rw [hps5] at hh5
          have HH5 := Lib.hid hh5
          obtain ⟨-, -, -, l3, -, -, -⟩ := hh5.p.cells
          have hlk := hh5.p.link
          have HTk2 := Lib.hid (link_take _ w5 k ps2.ln 1 (by decide) hlk)
          clear hh5 hps5 hu5 c5 HTi hlk
          go_wp2_with fail
          refine HTk2.out.mono ?_
          rintro x w6 ⟨⟨vb, rfl, hvb⟩, hl6, c6⟩
          rw [HLn.out] at hvb hl6
          have hnew : LS.take LS.new 1 = LS.new := rfl
          rw [hnew] at hl6
          obtain ⟨m6, ps6, hps6, hh6⟩ := HH5.out.step (R := fun x => x = ps2.ticked es) ⟨_, _, Agree.lab _ _ _, HH5.out.p.stepLink c6 (hl6.mono fun g hg _ => .inl hg), by rw [← HLn.out] <;> rfl, c6.mine (by decide)⟩
          rw [hps6] at hh6
          have HH6 := Lib.hid hh6
          obtain ⟨rs6, hu6⟩ := hh6.p.u1
          obtain ⟨ab, cb, rfl, -, -, -, -⟩ := hvb
          have HHe := Lib.hid (unit_hear0 _ w6 _ L _ rs6 ab _ cb hu6 (.inr (show (LS.came LS.new 1).length ≤ 6 from by decide)))
          clear hh6 hps6 hu6 hl6 c6 HTk2 l3
          go_wp2_with fail
          refine HHe.out.mono ?_
          rintro x w7 ⟨rfl, rfl⟩
          go_wp2_with fail
          go_roundw
          case rel => exact ⟨m6, _, .inr (.inr ⟨rfl, rfl⟩), HH6.out⟩
          case measure => simp [intOf]
        · have HYl := Lib.hid (pair_yields _ es (HH.out.sl HV.out) (by omega) HH.out.p OK.out HTO.out.n.1 (by have := HTO.out.n.2; show ps2.re.now ≤ _; omega))
          go_wp2_with fail
          refine HYl.out.mono ?_
          rintro x w4 ⟨rfl, hst⟩
          obtain ⟨m4, ps4, hyl, hh4⟩ := HH.out.step hst
          have HUp : Hid (PS.Upto es ps ps4) := ⟨ps2, HF.out, hyl⟩
          have hk := yl_keep hyl
          have hk2 := hap_keep HF.out
          have HLn4 : Hid (ps4.ln = LS.new) := hk.1.trans HLn.out
          have hnw : ps4.now = ps.now + 1 := hk.2.1.trans hk2.2.2
          have HNw := Lib.hid hnw
          have HOA := Lib.hid (H4.out ps4 HUp.out)
          have HH4 := Lib.hid hh4
          obtain ⟨-, -, -, -, -, -, l6⟩ := hh4.p.cells
          rw [hnw] at l6
          clear hst hyl hk hk2 hnw hh4 HH HYl HLn HTO
          have hq : (ps.now + 1 + 1).tmod 2 = 0 ∨ (ps.now + 1 + 1).tmod 2 = 1 := by
            rw [Int.tmod_eq_emod_of_nonneg (by omega)]; omega
          rcases hq with hq | hq
          · have HQ := Lib.hid hq
            go_wp2_with fail
            clear l6 hq
            obtain ⟨w5, hw5⟩ : ∃ w5, w5 = w4.alloc (.cells #[.int .i64 0, .int .i64 1] 3) := ⟨_, rfl⟩
            rw [← hw5]
            have cw5 : Ch Noone w4 w5 := by rw [hw5]; exact (Ch.refl _ _).alloc _
            have hsb : Blk w5 w4.heap.size 3 #[.int .i64 0, .int .i64 1] := by rw [hw5]; exact Blk.new _ _ _
            have hh5 : Here m w p a0 a1 r k f s L w.heap.size (lab m4 w4.heap.size 9) w5 ps4 := by
              have ag := Agree.lab w4 m4 9
              have hb := HH4.out.b.keep HH4.out.l cw5.mineNo ag
              exact ⟨HH4.out.a.trans ag HH4.out.c.size, HH4.out.p.pure cw5, HH4.out.c.then cw5 (fun _ _ h => h.elim), hb.1, hb.2⟩
            have hsm : lab m4 w4.heap.size 9 w4.heap.size = 9 := lab_ge (Nat.le_refl _)
            generalize lab m4 w4.heap.size 9 = m5 at *
            obtain ⟨sb, hsbe⟩ : ∃ sb, sb = w4.heap.size := ⟨_, rfl⟩
            rw [← hsbe] at hsb hsm ⊢
            have HH5 := Lib.hid hh5
            have HSb := Lib.hid hsb
            have HSm := Lib.hid hsm
            clear hh5 hsb hsm hw5 cw5 hsbe HH4
            go_loopw [83] (fun i wq => ∃ (m3 : Nat → Nat) (ps3 : PS), ((i = .int .i64 0 ∧ ps3 = ps4) ∨ (i = .int .i64 1 ∧ ∃ x0 y0, AskRel ps4.u0 ps4.re 0 (es.any (evB 4 0)) x0 y0 ∧ ps3 = { ps4 with u0 := x0, re := y0 }) ∨ (i = .int .i64 2 ∧ PS.Asked es ps4 ps3)) ∧ Here m w p a0 a1 r k f s L w.heap.size m3 wq ps3 ∧ Blk wq sb 3 #[.int .i64 0, .int .i64 1] ∧ m3 sb = 9) (fun i _ => (2 - intOf i).toNat)
            case atStart => exact ⟨m5, ps4, .inl ⟨rfl, rfl⟩, HH5.out, HSb.out, HSm.out⟩
            case round =>
              obtain ⟨m3, ps3, hi, hh, hsb, hsm⟩ := hrel
              have HH := Lib.hid hh
              have HSb := Lib.hid hsb
              have HSm := Lib.hid hsm
              have sc0 : wr.cell? ⟨sb, 0, none⟩ = some (.int .i64 0) := hsb.cell 0
              have sc1 : wr.cell? ⟨sb, 1, none⟩ = some (.int .i64 1) := hsb.cell 1
              clear hh hsb hsm HH5
              rcases hi with ⟨rfl, hps⟩ | ⟨rfl, x0, y0, hask, hps⟩ | ⟨rfl, hask⟩
              · rw [hps] at HH
                clear hps
                have HOf := Lib.hid (pair_of _ wr _ es 4 0 (HH.out.sl HV.out) (by omega))
                go_wp2_with fail
                refine HOf.out.mono ?_
                rintro x w6 ⟨rfl, c6⟩
                have ag := Agree.lab wr m3 9
                have hs6 := HSb.out.keep HSm.out c6.mineNo ag
                have hh6 : Here m w p a0 a1 r k f s L w.heap.size (lab m3 wr.heap.size 9) w6 ps4 := by
                  have hb := HH.out.b.keep HH.out.l c6.mineNo ag
                  exact ⟨HH.out.a.trans ag HH.out.c.size, HH.out.p.pure c6, HH.out.c.then c6 (fun _ _ h => h.elim), hb.1, hb.2⟩
                generalize lab m3 wr.heap.size 9 = m6 at *
                have HH6 := Lib.hid hh6
                have HS6 := Lib.hid hs6
                have HAs := Lib.hid (pair_asks0 (es.any (evB 4 0)) hh6.p OK.out HOA.out.c0 HOA.out.t0.1 HOA.out.t0.2 HOA.out.e.1 (by have := HOA.out.e.2; omega))
                clear hh6 hs6 ag c6 HOf
                go_wp2_with fail
                refine HAs.out.mono ?_
                rintro x w7 ⟨rfl, ⟨m7, ps7, a7, h7, ⟨x0, y0, hask, hps7⟩, c7⟩⟩
                have HAk := Lib.hid hask
                have hb7 := HH6.out.b.keep HH6.out.l c7 a7
                have hs7 := HS6.out.1.keep HS6.out.2 c7 a7
                have HH7 : Hid (Here m w p a0 a1 r k f s L w.heap.size m7 w7 ps7) := ⟨HH6.out.a.trans a7 HH6.out.c.size, h7, HH6.out.c.next HH6.out.a c7, hb7.1, hb7.2⟩
                have HS7 := Lib.hid hs7
                have HPs7 := Lib.hid hps7
                clear hask hb7 hs7 a7 h7 c7 hps7
                go_wp2_with fail
                go_roundw
                case rel => exact ⟨m7, ps7, .inr (.inl ⟨rfl, x0, y0, HAk.out, HPs7.out⟩), HH7.out, HS7.out.1, HS7.out.2⟩
                case measure => simp [intOf]
              · rw [hps] at HH
                clear hps
                have HAk0 := Lib.hid hask
                clear hask
                have HEp : Hid (0 ≤ y0.epoch ∧ y0.epoch ≤ 30000) := ask_epoch HAk0.out HOA.out.e
                have HOf := Lib.hid (pair_of _ wr _ es 4 1 (HH.out.sl HV.out) (by omega))
                go_wp2_with fail
                refine HOf.out.mono ?_
                rintro x w6 ⟨rfl, c6⟩
                have ag := Agree.lab wr m3 9
                have hs6 := HSb.out.keep HSm.out c6.mineNo ag
                have hh6 : Here m w p a0 a1 r k f s L w.heap.size (lab m3 wr.heap.size 9) w6 { ps4 with u0 := x0, re := y0 } := by
                  have hb := HH.out.b.keep HH.out.l c6.mineNo ag
                  exact ⟨HH.out.a.trans ag HH.out.c.size, HH.out.p.pure c6, HH.out.c.then c6 (fun _ _ h => h.elim), hb.1, hb.2⟩
                generalize lab m3 wr.heap.size 9 = m6 at *
                have HH6 := Lib.hid hh6
                have HS6 := Lib.hid hs6
                have HAs := Lib.hid (pair_asks1 (es.any (evB 4 1)) hh6.p OK.out HOA.out.c1 HOA.out.t1.1 HOA.out.t1.2 HEp.out.1 HEp.out.2)
                clear hh6 hs6 ag c6 HOf
                go_wp2_with fail
                refine HAs.out.mono ?_
                rintro x w7 ⟨rfl, ⟨m7, ps7, a7, h7, ⟨x1, y1, hask, hps7⟩, c7⟩⟩
                have HAk := Lib.hid hask
                have hb7 := HH6.out.b.keep HH6.out.l c7 a7
                have hs7 := HS6.out.1.keep HS6.out.2 c7 a7
                have HH7 : Hid (Here m w p a0 a1 r k f s L w.heap.size m7 w7 ps7) := ⟨HH6.out.a.trans a7 HH6.out.c.size, h7, HH6.out.c.next HH6.out.a c7, hb7.1, hb7.2⟩
                have HS7 := Lib.hid hs7
                have HPs7 := Lib.hid hps7
                clear hask hb7 hs7 a7 h7 c7 hps7
                have HAd : Hid (PS.Asked es ps4 ps7) := by
                  unfold Hid PS.Asked
                  rw [if_pos (by rw [HNw.out]; exact HQ.out)]
                  exact ⟨x0, y0, x1, y1, HAk0.out, HAk.out, HPs7.out⟩
                go_wp2_with fail
                go_roundw
                case rel => exact ⟨m7, ps7, .inr (.inr ⟨rfl, HAd.out⟩), HH7.out, HS7.out.1, HS7.out.2⟩
                case measure => simp [intOf]
              · have HAd := Lib.hid hask
                clear hask HSb HSm sc1
                have HLn5 : Hid (ps3.ln = LS.new) := (asked_keep HAd.out).1.trans HLn4.out
                have HNw5 : Hid (ps3.now = ps.now + 1) := (asked_keep HAd.out).2.trans HNw.out
                have HTL := Lib.hid (H5.out ps4 ps3 HUp.out HAd.out)
                have HTe := Lib.hid (pair_tells0 _ es (HH.out.sl HV.out) (by omega) HH.out.p OK.out HTL.out.m0 HTL.out.m1)
                go_wp2_with fail
                refine HTe.out.mono ?_
                rintro x w6 ⟨v1, v2, m6, rfl, hout, a6, h6, c6⟩
                obtain ⟨z1, z2, e, hd, hq⟩ := hout
                cases e
                have hds := hd.sl
                obtain ⟨e1, f1, rfl, -, -, -, -⟩ := hd.sl
                obtain ⟨e2, f2, rfl, -, -, -, -⟩ := hq.sl
                have hb6 := HH.out.b.keep HH.out.l c6 a6
                have HH6 : Hid (Here m w p a0 a1 r k f s L w.heap.size m6 w6 { ps3 with u0 := ps3.u0.cyc, u1 := ps3.u1.cyc }) := ⟨HH.out.a.trans a6 HH.out.c.size, h6, HH.out.c.next HH.out.a c6, hb6.1, hb6.2⟩
                have hrbw := HH.out.b.lt
                have HO6 : Hid (OutAt (fun g => m6 g = 9 ∧ w.heap.size < g) w6 (.agg #[.slice e1 (zeros L.pts.length).length f1, .slice e2 (nots L.sigs.length).length f2]) (zeros L.pts.length) (nots L.sigs.length)) := ⟨_, _, rfl, hd.mono fun g hg _ => ⟨hg.1, by have := hg.2; omega⟩, hq.mono fun g hg _ => ⟨⟨hg.1.1, by have := hg.1.2; omega⟩, hg.2⟩⟩
                have hz1 : (zeros L.pts.length).length = L.pts.length := List.length_replicate
                have hz2 : (nots L.sigs.length).length = L.sigs.length := List.length_replicate
                rw [hz1, hz2] at HO6
                clear hd hq hds hb6 a6 h6 c6 hrbw HTe
                obtain ⟨w7, hw7⟩ : ∃ w7, w7 = w6.alloc (.cells #[.slice e1 L.pts.length f1, .slice e2 L.sigs.length f2] 36) := ⟨_, rfl⟩
                have cw7 : Ch Noone w6 w7 := by rw [hw7]; exact (Ch.refl _ _).alloc _
                have hob : Blk w7 w6.heap.size 36 #[.slice e1 L.pts.length f1, .slice e2 L.sigs.length f2] := by rw [hw7]; exact Blk.new _ _ _
                have ag7 := Agree.lab w6 m6 9
                have hb7 := HH6.out.b.keep HH6.out.l cw7.mineNo ag7
                have hh7 : Here m w p a0 a1 r k f s L w.heap.size (lab m6 w6.heap.size 9) w7 { ps3 with u0 := ps3.u0.cyc, u1 := ps3.u1.cyc } := ⟨HH6.out.a.trans ag7 HH6.out.c.size, HH6.out.p.pure cw7, HH6.out.c.then cw7 (fun _ _ h => h.elim), hb7.1, hb7.2⟩
                have hom : lab m6 w6.heap.size 9 w6.heap.size = 9 := lab_ge (Nat.le_refl _)
                have HO7 := Lib.hid (HO6.out.keep cw7.mineNo ag7)
                have HW7 := Lib.hid hw7
                generalize lab m6 w6.heap.size 9 = m7 at *
                have HH7 := Lib.hid hh7
                have HOb := Lib.hid hob
                have HOm := Lib.hid hom
                obtain ⟨o1, o2, eo, hd7, hq7⟩ := HO7.out
                have hst : Sl (fun g => m7 g = 9) w7.drew (.slice e1 L.pts.length f1) (zeros L.pts.length).length ((zeros L.pts.length).flatMap fInt) := by
                  cases eo
                  exact (hd7.sl.mono fun g hg _ => hg.1).drew
                have HSt := Lib.hid (field_step _ (fun g => m7 g = 9) w7.drew f _ _ _ (zeros L.pts.length) (hh7.p.field.ch ((Ch.refl Noone _).drew) (fun _ _ _ h => h)) (by have := HH6.out.p.pl; have := OK.out.p1; omega) HH6.out.p.pk hst (fun g hg h => by have h1 : m7 g = 9 := hg; have h2 : m7 g = 3 := h; omega))
                obtain ⟨-, -, -, -, l4, -, -⟩ := HH6.out.p.cells
                have hp6 := HH6.out.p.blk.lt
                clear hw7 cw7 hob ag7 hb7 hh7 hom HO6 hd7 hq7 eo hst
                go_wp2_with fail
                rw [← HW7.out]
                clear l4
                obtain ⟨-, -, -, -, l4, -, -⟩ := HH7.out.p.cells
                have ob0 : w7.cell? ⟨w6.heap.size, 0, none⟩ = some (.slice e1 L.pts.length f1) := HOb.out.cell 0
                go_still_tail 6, (by kernel_rfl)
                change wpList _ _ _ _ _ w7.drew
                go_wp2_with fail
                refine HSt.out.mono ?_
                rintro x w8 ⟨rfl, ⟨pts', hsp, hf8⟩, c8⟩
                have c8' : Ch (fun g => m7 g = 3) w7 w8 := (Ch.refl _ _).drew.trans c8
                have h8 := HH7.out.p.stepField c8' (hf8.mono fun g hg _ => .inl hg) rfl (hsp.1.trans rfl) (stepped_ok hsp HH7.out.p.pk)
                have a8 : Agree w7 m7 (lab m7 w7.heap.size 3) := Agree.lab _ _ _
                have c8m : Ch (Mine m7) w7 w8 := c8'.mine (by decide)
                have hb8 := HH7.out.b.keep HH7.out.l c8m a8
                have ho8 := HOb.out.keep HOm.out c8m a8
                have HO8 := Lib.hid (HO7.out.keep c8m a8)
                have HH8 : Hid (Here m w p a0 a1 r k f s L w.heap.size (lab m7 w7.heap.size 3) w8 _) := ⟨HH7.out.a.trans a8 HH7.out.c.size, h8, HH7.out.c.next HH7.out.a c8m, hb8.1, hb8.2⟩
                generalize lab m7 w7.heap.size 3 = m8 at *
                have HOb8 := Lib.hid ho8
                have HEn := Lib.hid (pair_ends0 _ es (HH8.out.sl HV.out) (by omega) HH8.out.p HTL.out.n0 HTL.out.n1 HLn5.out)
                clear c8 c8' h8 a8 c8m hb8 ho8 hsp hf8 l4 ob0 HSt
                go_wp2_with fail
                refine HEn.out.mono ?_
                rintro x w9 ⟨rfl, ⟨m9, ps9, a9, h9, hps9, c9⟩⟩
                have hb9 := HH8.out.b.keep HH8.out.l c9 a9
                have ho9 := HOb8.out.1.keep HOb8.out.2 c9 a9
                have HO9 := Lib.hid (HO8.out.keep c9 a9)
                rw [hps9] at h9
                have HH9 : Hid (Here m w p a0 a1 r k f s L w.heap.size m9 w9 _) := ⟨HH8.out.a.trans a9 HH8.out.c.size, h9, HH8.out.c.next HH8.out.a c9, hb9.1, hb9.2⟩
                have t0 : w9.cell? ⟨w6.heap.size, 0, none⟩ = some (.slice e1 L.pts.length f1) := ho9.1.cell 0
                have t1 : w9.cell? ⟨w6.heap.size, 1, none⟩ = some (.slice e2 L.sigs.length f2) := ho9.1.cell 1
                have r0 : w9.cell? ⟨w.heap.size, 0, none⟩ = some (.slice none 0 0) := hb9.1.cell 0
                have r1 : w9.cell? ⟨w.heap.size, 1, none⟩ = some (.slice none 0 0) := hb9.1.cell 1
                have g0 := hb9.1.free 0
                have g1 := hb9.1.free 1
                clear hb9 ho9 h9 c9 a9 hps9 HEn
                go_wp2_with fail
                (try simp only [Exit.inBlock, Exit.then])
                have cT : Ch (fun g => g = w.heap.size) w9 ((w9.setCell ⟨w.heap.size, 0, none⟩ (.slice e1 L.pts.length f1)).setCell ⟨w.heap.size, 1, none⟩ (.slice e2 L.sigs.length f2)) := ((Ch.refl _ _).set1 _ _).set1 _ _
                have hx0 := (HH9.out.b.set 0 (.slice e1 L.pts.length f1)).set 1 (.slice e2 L.sigs.length f2)
                have hx2 : Blk ((w9.setCell ⟨w.heap.size, 0, none⟩ (.slice e1 L.pts.length f1)).setCell ⟨w.heap.size, 1, none⟩ (.slice e2 L.sigs.length f2)) w.heap.size 36 #[.slice e1 L.pts.length f1, .slice e2 L.sigs.length f2] := by simpa using hx0
                refine bodyPost_ret (results_cell_row (P := Tryz.prog) rfl _ _ w.heap.size _ _ _ _ rfl hx2 Tryz.underlying36 rfl (by kernel_rfl)) rfl ?_
                have ag := Agree.lab w9 m9 9
                refine ⟨_, _, _, _, ps4, ps3, rfl, ?_, HH9.out.a.trans ag HH9.out.c.size, HH9.out.p.pure9 (cT.mono fun g _ e => by rw [e]; exact HH9.out.l), HH9.out.c.then cT fun i hi e => by omega, HUp.out, HAd.out, rfl, rfl, rfl, HLn5.out, HNw5.out⟩
                exact ((HO9.out.mono (O' := fun g => (m9 g = 9 ∧ w.heap.size < g) ∧ g < w9.heap.size) fun g hg hl => ⟨hg, hl⟩).ch cT fun g hg _ e => by have := hg.1.2; omega).mono fun g hg _ => (ag g hg.2).trans hg.1.1
          · have HQ := Lib.hid hq
            go_wp2_with fail
            clear l6 hq
            obtain ⟨w5, hw5⟩ : ∃ w5, w5 = w4.alloc (.cells #[.int .i64 1, .int .i64 0] 3) := ⟨_, rfl⟩
            rw [← hw5]
            have cw5 : Ch Noone w4 w5 := by rw [hw5]; exact (Ch.refl _ _).alloc _
            have hsb : Blk w5 w4.heap.size 3 #[.int .i64 1, .int .i64 0] := by rw [hw5]; exact Blk.new _ _ _
            have hh5 : Here m w p a0 a1 r k f s L w.heap.size (lab m4 w4.heap.size 9) w5 ps4 := by
              have ag := Agree.lab w4 m4 9
              have hb := HH4.out.b.keep HH4.out.l cw5.mineNo ag
              exact ⟨HH4.out.a.trans ag HH4.out.c.size, HH4.out.p.pure cw5, HH4.out.c.then cw5 (fun _ _ h => h.elim), hb.1, hb.2⟩
            have hsm : lab m4 w4.heap.size 9 w4.heap.size = 9 := lab_ge (Nat.le_refl _)
            generalize lab m4 w4.heap.size 9 = m5 at *
            obtain ⟨sb, hsbe⟩ : ∃ sb, sb = w4.heap.size := ⟨_, rfl⟩
            rw [← hsbe] at hsb hsm ⊢
            have HH5 := Lib.hid hh5
            have HSb := Lib.hid hsb
            have HSm := Lib.hid hsm
            clear hh5 hsb hsm hw5 cw5 hsbe HH4
            go_loopw [83] (fun i wq => ∃ (m3 : Nat → Nat) (ps3 : PS), ((i = .int .i64 0 ∧ ps3 = ps4) ∨ (i = .int .i64 1 ∧ ∃ x0 y0, AskRel ps4.u1 ps4.re 1 (es.any (evB 4 1)) x0 y0 ∧ ps3 = { ps4 with u1 := x0, re := y0 }) ∨ (i = .int .i64 2 ∧ PS.Asked es ps4 ps3)) ∧ Here m w p a0 a1 r k f s L w.heap.size m3 wq ps3 ∧ Blk wq sb 3 #[.int .i64 1, .int .i64 0] ∧ m3 sb = 9) (fun i _ => (2 - intOf i).toNat)
            case atStart => exact ⟨m5, ps4, .inl ⟨rfl, rfl⟩, HH5.out, HSb.out, HSm.out⟩
            case round =>
              obtain ⟨m3, ps3, hi, hh, hsb, hsm⟩ := hrel
              have HH := Lib.hid hh
              have HSb := Lib.hid hsb
              have HSm := Lib.hid hsm
              have sc0 : wr.cell? ⟨sb, 0, none⟩ = some (.int .i64 1) := hsb.cell 0
              have sc1 : wr.cell? ⟨sb, 1, none⟩ = some (.int .i64 0) := hsb.cell 1
              clear hh hsb hsm HH5
              rcases hi with ⟨rfl, hps⟩ | ⟨rfl, x0, y0, hask, hps⟩ | ⟨rfl, hask⟩
              · rw [hps] at HH
                clear hps
                have HOf := Lib.hid (pair_of _ wr _ es 4 1 (HH.out.sl HV.out) (by omega))
                go_wp2_with fail
                refine HOf.out.mono ?_
                rintro x w6 ⟨rfl, c6⟩
                have ag := Agree.lab wr m3 9
                have hs6 := HSb.out.keep HSm.out c6.mineNo ag
                have hh6 : Here m w p a0 a1 r k f s L w.heap.size (lab m3 wr.heap.size 9) w6 ps4 := by
                  have hb := HH.out.b.keep HH.out.l c6.mineNo ag
                  exact ⟨HH.out.a.trans ag HH.out.c.size, HH.out.p.pure c6, HH.out.c.then c6 (fun _ _ h => h.elim), hb.1, hb.2⟩
                generalize lab m3 wr.heap.size 9 = m6 at *
                have HH6 := Lib.hid hh6
                have HS6 := Lib.hid hs6
                have HAs := Lib.hid (pair_asks1 (es.any (evB 4 1)) hh6.p OK.out HOA.out.c1 HOA.out.t1.1 HOA.out.t1.2 HOA.out.e.1 (by have := HOA.out.e.2; omega))
                clear hh6 hs6 ag c6 HOf
                go_wp2_with fail
                refine HAs.out.mono ?_
                rintro x w7 ⟨rfl, ⟨m7, ps7, a7, h7, ⟨x0, y0, hask, hps7⟩, c7⟩⟩
                have HAk := Lib.hid hask
                have hb7 := HH6.out.b.keep HH6.out.l c7 a7
                have hs7 := HS6.out.1.keep HS6.out.2 c7 a7
                have HH7 : Hid (Here m w p a0 a1 r k f s L w.heap.size m7 w7 ps7) := ⟨HH6.out.a.trans a7 HH6.out.c.size, h7, HH6.out.c.next HH6.out.a c7, hb7.1, hb7.2⟩
                have HS7 := Lib.hid hs7
                have HPs7 := Lib.hid hps7
                clear hask hb7 hs7 a7 h7 c7 hps7
                go_wp2_with fail
                go_roundw
                case rel => exact ⟨m7, ps7, .inr (.inl ⟨rfl, x0, y0, HAk.out, HPs7.out⟩), HH7.out, HS7.out.1, HS7.out.2⟩
                case measure => simp [intOf]
              · rw [hps] at HH
                clear hps
                have HAk0 := Lib.hid hask
                clear hask
                have HEp : Hid (0 ≤ y0.epoch ∧ y0.epoch ≤ 30000) := ask_epoch HAk0.out HOA.out.e
                have HOf := Lib.hid (pair_of _ wr _ es 4 0 (HH.out.sl HV.out) (by omega))
                go_wp2_with fail
                refine HOf.out.mono ?_
                rintro x w6 ⟨rfl, c6⟩
                have ag := Agree.lab wr m3 9
                have hs6 := HSb.out.keep HSm.out c6.mineNo ag
                have hh6 : Here m w p a0 a1 r k f s L w.heap.size (lab m3 wr.heap.size 9) w6 { ps4 with u1 := x0, re := y0 } := by
                  have hb := HH.out.b.keep HH.out.l c6.mineNo ag
                  exact ⟨HH.out.a.trans ag HH.out.c.size, HH.out.p.pure c6, HH.out.c.then c6 (fun _ _ h => h.elim), hb.1, hb.2⟩
                generalize lab m3 wr.heap.size 9 = m6 at *
                have HH6 := Lib.hid hh6
                have HS6 := Lib.hid hs6
                have HAs := Lib.hid (pair_asks0 (es.any (evB 4 0)) hh6.p OK.out HOA.out.c0 HOA.out.t0.1 HOA.out.t0.2 HEp.out.1 HEp.out.2)
                clear hh6 hs6 ag c6 HOf
                go_wp2_with fail
                refine HAs.out.mono ?_
                rintro x w7 ⟨rfl, ⟨m7, ps7, a7, h7, ⟨x1, y1, hask, hps7⟩, c7⟩⟩
                have HAk := Lib.hid hask
                have hb7 := HH6.out.b.keep HH6.out.l c7 a7
                have hs7 := HS6.out.1.keep HS6.out.2 c7 a7
                have HH7 : Hid (Here m w p a0 a1 r k f s L w.heap.size m7 w7 ps7) := ⟨HH6.out.a.trans a7 HH6.out.c.size, h7, HH6.out.c.next HH6.out.a c7, hb7.1, hb7.2⟩
                have HS7 := Lib.hid hs7
                have HPs7 := Lib.hid hps7
                clear hask hb7 hs7 a7 h7 c7 hps7
                have HAd : Hid (PS.Asked es ps4 ps7) := by
                  unfold Hid PS.Asked
                  rw [if_neg (by rw [HNw.out, HQ.out]; decide)]
                  exact ⟨x1, y0, x0, y1, HAk0.out, HAk.out, HPs7.out⟩
                go_wp2_with fail
                go_roundw
                case rel => exact ⟨m7, ps7, .inr (.inr ⟨rfl, HAd.out⟩), HH7.out, HS7.out.1, HS7.out.2⟩
                case measure => simp [intOf]
              · have HAd := Lib.hid hask
                clear hask HSb HSm sc1
                have HLn5 : Hid (ps3.ln = LS.new) := (asked_keep HAd.out).1.trans HLn4.out
                have HNw5 : Hid (ps3.now = ps.now + 1) := (asked_keep HAd.out).2.trans HNw.out
                have HTL := Lib.hid (H5.out ps4 ps3 HUp.out HAd.out)
                have HTe := Lib.hid (pair_tells0 _ es (HH.out.sl HV.out) (by omega) HH.out.p OK.out HTL.out.m0 HTL.out.m1)
                go_wp2_with fail
                refine HTe.out.mono ?_
                rintro x w6 ⟨v1, v2, m6, rfl, hout, a6, h6, c6⟩
                obtain ⟨z1, z2, e, hd, hq⟩ := hout
                cases e
                have hds := hd.sl
                obtain ⟨e1, f1, rfl, -, -, -, -⟩ := hd.sl
                obtain ⟨e2, f2, rfl, -, -, -, -⟩ := hq.sl
                have hb6 := HH.out.b.keep HH.out.l c6 a6
                have HH6 : Hid (Here m w p a0 a1 r k f s L w.heap.size m6 w6 { ps3 with u0 := ps3.u0.cyc, u1 := ps3.u1.cyc }) := ⟨HH.out.a.trans a6 HH.out.c.size, h6, HH.out.c.next HH.out.a c6, hb6.1, hb6.2⟩
                have hrbw := HH.out.b.lt
                have HO6 : Hid (OutAt (fun g => m6 g = 9 ∧ w.heap.size < g) w6 (.agg #[.slice e1 (zeros L.pts.length).length f1, .slice e2 (nots L.sigs.length).length f2]) (zeros L.pts.length) (nots L.sigs.length)) := ⟨_, _, rfl, hd.mono fun g hg _ => ⟨hg.1, by have := hg.2; omega⟩, hq.mono fun g hg _ => ⟨⟨hg.1.1, by have := hg.1.2; omega⟩, hg.2⟩⟩
                have hz1 : (zeros L.pts.length).length = L.pts.length := List.length_replicate
                have hz2 : (nots L.sigs.length).length = L.sigs.length := List.length_replicate
                rw [hz1, hz2] at HO6
                clear hd hq hds hb6 a6 h6 c6 hrbw HTe
                obtain ⟨w7, hw7⟩ : ∃ w7, w7 = w6.alloc (.cells #[.slice e1 L.pts.length f1, .slice e2 L.sigs.length f2] 36) := ⟨_, rfl⟩
                have cw7 : Ch Noone w6 w7 := by rw [hw7]; exact (Ch.refl _ _).alloc _
                have hob : Blk w7 w6.heap.size 36 #[.slice e1 L.pts.length f1, .slice e2 L.sigs.length f2] := by rw [hw7]; exact Blk.new _ _ _
                have ag7 := Agree.lab w6 m6 9
                have hb7 := HH6.out.b.keep HH6.out.l cw7.mineNo ag7
                have hh7 : Here m w p a0 a1 r k f s L w.heap.size (lab m6 w6.heap.size 9) w7 { ps3 with u0 := ps3.u0.cyc, u1 := ps3.u1.cyc } := ⟨HH6.out.a.trans ag7 HH6.out.c.size, HH6.out.p.pure cw7, HH6.out.c.then cw7 (fun _ _ h => h.elim), hb7.1, hb7.2⟩
                have hom : lab m6 w6.heap.size 9 w6.heap.size = 9 := lab_ge (Nat.le_refl _)
                have HO7 := Lib.hid (HO6.out.keep cw7.mineNo ag7)
                have HW7 := Lib.hid hw7
                generalize lab m6 w6.heap.size 9 = m7 at *
                have HH7 := Lib.hid hh7
                have HOb := Lib.hid hob
                have HOm := Lib.hid hom
                obtain ⟨o1, o2, eo, hd7, hq7⟩ := HO7.out
                have hst : Sl (fun g => m7 g = 9) w7.drew (.slice e1 L.pts.length f1) (zeros L.pts.length).length ((zeros L.pts.length).flatMap fInt) := by
                  cases eo
                  exact (hd7.sl.mono fun g hg _ => hg.1).drew
                have HSt := Lib.hid (field_step _ (fun g => m7 g = 9) w7.drew f _ _ _ (zeros L.pts.length) (hh7.p.field.ch ((Ch.refl Noone _).drew) (fun _ _ _ h => h)) (by have := HH6.out.p.pl; have := OK.out.p1; omega) HH6.out.p.pk hst (fun g hg h => by have h1 : m7 g = 9 := hg; have h2 : m7 g = 3 := h; omega))
                obtain ⟨-, -, -, -, l4, -, -⟩ := HH6.out.p.cells
                have hp6 := HH6.out.p.blk.lt
                clear hw7 cw7 hob ag7 hb7 hh7 hom HO6 hd7 hq7 eo hst
                go_wp2_with fail
                rw [← HW7.out]
                clear l4
                obtain ⟨-, -, -, -, l4, -, -⟩ := HH7.out.p.cells
                have ob0 : w7.cell? ⟨w6.heap.size, 0, none⟩ = some (.slice e1 L.pts.length f1) := HOb.out.cell 0
                go_still_tail 6, (by kernel_rfl)
                change wpList _ _ _ _ _ w7.drew
                go_wp2_with fail
                refine HSt.out.mono ?_
                rintro x w8 ⟨rfl, ⟨pts', hsp, hf8⟩, c8⟩
                have c8' : Ch (fun g => m7 g = 3) w7 w8 := (Ch.refl _ _).drew.trans c8
                have h8 := HH7.out.p.stepField c8' (hf8.mono fun g hg _ => .inl hg) rfl (hsp.1.trans rfl) (stepped_ok hsp HH7.out.p.pk)
                have a8 : Agree w7 m7 (lab m7 w7.heap.size 3) := Agree.lab _ _ _
                have c8m : Ch (Mine m7) w7 w8 := c8'.mine (by decide)
                have hb8 := HH7.out.b.keep HH7.out.l c8m a8
                have ho8 := HOb.out.keep HOm.out c8m a8
                have HO8 := Lib.hid (HO7.out.keep c8m a8)
                have HH8 : Hid (Here m w p a0 a1 r k f s L w.heap.size (lab m7 w7.heap.size 3) w8 _) := ⟨HH7.out.a.trans a8 HH7.out.c.size, h8, HH7.out.c.next HH7.out.a c8m, hb8.1, hb8.2⟩
                generalize lab m7 w7.heap.size 3 = m8 at *
                have HOb8 := Lib.hid ho8
                have HEn := Lib.hid (pair_ends0 _ es (HH8.out.sl HV.out) (by omega) HH8.out.p HTL.out.n0 HTL.out.n1 HLn5.out)
                clear c8 c8' h8 a8 c8m hb8 ho8 hsp hf8 l4 ob0 HSt
                go_wp2_with fail
                refine HEn.out.mono ?_
                rintro x w9 ⟨rfl, ⟨m9, ps9, a9, h9, hps9, c9⟩⟩
                have hb9 := HH8.out.b.keep HH8.out.l c9 a9
                have ho9 := HOb8.out.1.keep HOb8.out.2 c9 a9
                have HO9 := Lib.hid (HO8.out.keep c9 a9)
                rw [hps9] at h9
                have HH9 : Hid (Here m w p a0 a1 r k f s L w.heap.size m9 w9 _) := ⟨HH8.out.a.trans a9 HH8.out.c.size, h9, HH8.out.c.next HH8.out.a c9, hb9.1, hb9.2⟩
                have t0 : w9.cell? ⟨w6.heap.size, 0, none⟩ = some (.slice e1 L.pts.length f1) := ho9.1.cell 0
                have t1 : w9.cell? ⟨w6.heap.size, 1, none⟩ = some (.slice e2 L.sigs.length f2) := ho9.1.cell 1
                have r0 : w9.cell? ⟨w.heap.size, 0, none⟩ = some (.slice none 0 0) := hb9.1.cell 0
                have r1 : w9.cell? ⟨w.heap.size, 1, none⟩ = some (.slice none 0 0) := hb9.1.cell 1
                have g0 := hb9.1.free 0
                have g1 := hb9.1.free 1
                clear hb9 ho9 h9 c9 a9 hps9 HEn
                go_wp2_with fail
                (try simp only [Exit.inBlock, Exit.then])
                have cT : Ch (fun g => g = w.heap.size) w9 ((w9.setCell ⟨w.heap.size, 0, none⟩ (.slice e1 L.pts.length f1)).setCell ⟨w.heap.size, 1, none⟩ (.slice e2 L.sigs.length f2)) := ((Ch.refl _ _).set1 _ _).set1 _ _
                have hx0 := (HH9.out.b.set 0 (.slice e1 L.pts.length f1)).set 1 (.slice e2 L.sigs.length f2)
                have hx2 : Blk ((w9.setCell ⟨w.heap.size, 0, none⟩ (.slice e1 L.pts.length f1)).setCell ⟨w.heap.size, 1, none⟩ (.slice e2 L.sigs.length f2)) w.heap.size 36 #[.slice e1 L.pts.length f1, .slice e2 L.sigs.length f2] := by simpa using hx0
                refine bodyPost_ret (results_cell_row (P := Tryz.prog) rfl _ _ w.heap.size _ _ _ _ rfl hx2 Tryz.underlying36 rfl (by kernel_rfl)) rfl ?_
                have ag := Agree.lab w9 m9 9
                refine ⟨_, _, _, _, ps4, ps3, rfl, ?_, HH9.out.a.trans ag HH9.out.c.size, HH9.out.p.pure9 (cT.mono fun g _ e => by rw [e]; exact HH9.out.l), HH9.out.c.then cT fun i hi e => by omega, HUp.out, HAd.out, rfl, rfl, rfl, HLn5.out, HNw5.out⟩
                exact ((HO9.out.mono (O' := fun g => (m9 g = 9 ∧ w.heap.size < g) ∧ g < w9.heap.size) fun g hg hl => ⟨hg, hl⟩).ch cT fun g hg _ e => by have := hg.1.2; omega).mono fun g hg _ => (ag g hg.2).trans hg.1.1
end Go.Proofs.YtkplgggdidhnoaaGreatDoor
