/-
  The contract of pair: tells, of units that are not Active. Conditions: sizes. The contract of pair: ends, where no unit is Active. Conditions: sizes.
-/
import Derived.Test.YtkplgggdidhnoaaGreatDoorM18
import Derived.Test.YtkplgggdidhnoaaGreatDoorM03
namespace Go.Proofs.YtkplgggdidhnoaaGreatDoor
open Go.ChangeShapes Go.WideShapes Go.ChangeAt Go.RowKit
set_option linter.unusedVariables false

theorem info_cmd : (Tryz.prog.info? 50).map (fun i => (i.zero, i.size, i.bytes)) = some (some (.agg #[.int .i64 0, .int .i64 0]), 2, 16) := by kernel_rfl
theorem one_int2 (a b : Int) : ∀ u ∈ [Value.int .i64 a, .int .i64 b], u.oneCell' = true := by intro u hu; simp at hu; rcases hu with rfl | rfl <;> rfl
theorem OutAt.keep {m m1 : Nat → Nat} {w w1 : World} {v : Value} {d : List Int} {q : List Bool} {P : Nat → Prop} (h : OutAt (fun g => m g = 9 ∧ P g) w v d q) (c : Ch (Mine m) w w1) (a : Agree w m m1) : OutAt (fun g => m1 g = 9 ∧ P g) w1 v d q :=
  ((h.mono (O' := fun g => (m g = 9 ∧ P g) ∧ g < w.heap.size) fun g hg hl => ⟨hg, hl⟩).ch c fun g hg _ h => by have h' : m g ≤ 6 := h; have := hg.1.1; omega).mono fun g hg _ => ⟨(a g hg.2).trans hg.1.1, hg.1.2⟩
theorem Blk.keep {m m1 : Nat → Nat} {w w1 : World} {b : Nat} {T : TypeId} {cs : Array Value} (h : Blk w b T cs) (hm : m b = 9) (c : Ch (Mine m) w w1) (a : Agree w m m1) : Blk w1 b T cs ∧ m1 b = 9 :=
  ⟨c.blk h fun h => by have h' : m b ≤ 6 := h; omega, (a b h.lt).trans hm⟩
/-- What a unit may be before its cycle here. -/
structure US.Mild (u : US) : Prop where
  m3 : u.mode ≠ 3
  c0 : -9223372036854775808 ≤ u.count
  l0 : -30000 ≤ u.left
  l1 : u.left ≤ 30000
def zeros (n : Nat) : List Int := List.replicate n 0
def nots (n : Nat) : List Bool := List.replicate n false

set_option maxRecDepth 100000 in
set_option maxHeartbeats 8000000 in
theorem pair_tells0 {m : Nat → Nat} {w : World} {p a0 a1 r k f s : Nat} {L : Lay} {ps : PS} (v : Value) (es : List Ev) (hv : Sl (fun g => m g = 9) w v es.length (es.flatMap fEv)) (hl : es.length ≤ 1000) (h : PairP m w p a0 a1 r k f s L ps) (ok : LayOk L) (m0 : ps.u0.Mild) (m1 : ps.u1.Mild) :
    Calls Tryz.prog 34 #[.pointer (some ⟨p, 0, none⟩), v] w fun x w' => ∃ v1 v2 m', x = .returned (.agg #[v1, v2]) ∧ OutAt (fun g => m' g = 9 ∧ w.heap.size ≤ g) w' (.agg #[v1, v2]) (zeros L.pts.length) (nots L.sigs.length) ∧
      Agree w m m' ∧ PairP m' w' p a0 a1 r k f s L { ps with u0 := ps.u0.cyc, u1 := ps.u1.cyc } ∧ Ch (Mine m) w w' := by
  have HV := Lib.hid hv
  have HP := Lib.hid h
  have OK := Lib.hid ok
  have M0 := Lib.hid m0
  have M1 := Lib.hid m1
  have ho : ps.occ.length ≤ 100 := by have := h.ol; have := ok.s1; omega
  have hpl : ps.pts.length ≤ 100 := by have := h.pl; have := ok.p1; omega
  have HO := Lib.hid ho
  have HPL := Lib.hid hpl
  obtain ⟨av, cv, rfl, -, -, -, -⟩ := hv
  clear h ok m0 m1 ho hpl
  obtain ⟨i0, hi0, hz0, hz1, hz2⟩ := info_parts info_cmd
  go_enter Tryz.func34, Tryz.ntmps34
  go_wp2_with fail
  go_loopw [5, 15] (fun q i wr => ∃ (j n : Nat) (cs : List Cmd), j ≤ es.length ∧ i = .int .i64 j ∧ n ≤ j ∧ Ch Noone w wr ∧ Blk wr w.heap.size 36 #[.slice none 0 0, .slice none 0 0] ∧ Own (New (w.heap.size + 1)) wr 50 2 q n (cs.flatMap fCmd)) (fun _ i _ => (es.length - intOf i).toNat)
  case atStart => exact ⟨0, 0, [], by omega, rfl, by omega, (Ch.refl _ _).alloc _, Blk.new _ _ _, rfl, .inl ⟨rfl, rfl⟩⟩
  case round =>
    obtain ⟨j, n, cs, hj, rfl, hnj, hch, hb, hown⟩ := hrel
    have HOw := Lib.hid hown
    have HB := Lib.hid hb
    have hlt := hb.lt
    clear hown hb
    by_cases hjl : j < es.length
    · obtain ⟨b, off, rfl, hb9, hbw, hat⟩ := HV.out.at (f := fEv) (C := 5) (fun _ => rfl) (by omega) hjl
      have y0 : wr.cell? ⟨b, off + j * 5, none⟩ = some (.int .i64 es[j].kind) := (hch.rd hbw _).trans (hat 0 (by omega))
      have y1 : wr.cell? ⟨b, off + j * 5 + 1, none⟩ = some (.int .i64 es[j].unit) := (hch.rd hbw _).trans (hat 1 (by omega))
      have y2 : wr.cell? ⟨b, off + j * 5 + 2, none⟩ = some (.int .i64 es[j].n) := (hch.rd hbw _).trans (hat 2 (by omega))
      have y3 : wr.cell? ⟨b, off + j * 5 + 3, none⟩ = some (.int .i64 es[j].ck) := (hch.rd hbw _).trans (hat 3 (by omega))
      have y4 : wr.cell? ⟨b, off + j * 5 + 4, none⟩ = some (.int .i64 es[j].cr) := (hch.rd hbw _).trans (hat 4 (by omega))
      have hj0 : (0 : Int) ≤ j := by omega
      have hj1 : (j : Int) < es.length := by omega
      clear hat
      generalize es[j] = e at *
      obtain ⟨ek, eu, en, ec, er⟩ := e
      dsimp only at *
      by_cases k8 : ek = 8
      · subst k8
        go_wp2_with (at_builtin; refine And.right (a := True) ?_)
        refine ⟨trivial, ?_⟩
        refine wpList_append_own _ rfl _ _ 129 rfl (w.heap.size + 1) 50 i0 _ 2 16 Tryz.underlying129 hi0 hz0 hz1 hz2 rfl (by decide) _ n (cs.flatMap fCmd) (by exact rfl) (by exact (HOw.out.ch (((Ch.refl Noone wr).alloc _).alloc _) (fun _ _ _ h => h)).row) _ 1 1 [.int .i64 ec, .int .i64 er] (by exact rfl) rfl (by exact fresh_at _ _ (by simp) _ [.int .i64 ec, .int .i64 er]) (one_int2 _ _) (by unfold maxLen; omega) (by omega) (by simp; omega) ?_
        intro v' w2 hown hgrow _
        have cc := Ch.own HOw.out hgrow
        have HO2 := Lib.hid (Own.of hown)
        have hb2 := cc.blk ((HB.out.alloc _).alloc (.cells #[.int .i64 ec, .int .i64 er] 50)) (fun h => by have := h.1; omega)
        have HB2 := Lib.hid hb2
        have CW : Hid (Ch Noone w w2) := ((hch.alloc _).alloc _).then cc fun i hi h => by have := h.1; omega
        clear hb2 hown hgrow cc
        go_wp2_with fail
        go_roundw
        case rel => exact ⟨j + 1, n + 1, cs ++ [⟨ec, er⟩], by omega, by go_num, by omega, CW.out, HB2.out, by have h := HO2.out; rw [List.flatMap_append]; simpa [fCmd] using h⟩
        case measure => simp [intOf]; omega
      · have k8' : (ek == 8) = false := by simpa using k8
        clear k8
        go_wp2_with fail
        go_roundw
        case rel => exact ⟨j + 1, n, cs, by omega, by go_num, by omega, hch.alloc _, HB.out.alloc _, HOw.out.ch ((Ch.refl Noone _).alloc _) (fun _ _ _ h => h)⟩
        case measure => simp [intOf]; omega
    · have hjj : j = es.length := by omega
      have HP1 := Lib.hid (HP.out.pure hch)
      have A1 : Hid (Agree w m (lab m w.heap.size 9)) := Agree.lab _ _ _
      have hrb : lab m w.heap.size 9 w.heap.size = 9 := lab_ge (Nat.le_refl _)
      have HRb := Lib.hid hrb
      clear hrb hjj
      obtain ⟨rsS, hs⟩ := HP1.out.safe
      have HSf := Lib.hid (lock_safe _ _ _ _ _ hs OK.out)
      obtain ⟨-, -, -, -, -, l5, -⟩ := HP1.out.cells
      clear hs
      generalize lab m w.heap.size 9 = m1 at *
      go_wp2_with fail
      refine HSf.out.mono ?_
      rintro x w2 ⟨v0, rfl, ⟨z1, z2, rfl, hd, hq⟩, c2⟩
      have HD := Lib.hid hd
      have HQ := Lib.hid hq
      obtain ⟨e1, f1, rfl, -, -, -, -⟩ := hd.sl
      obtain ⟨e2, f2, rfl, -, -, -, -⟩ := hq.sl
      clear hd hq
      simp only [List.length_replicate] at HD HQ
      obtain ⟨w3, hw3⟩ : ∃ w3, w3 = w2.alloc (.cells #[.slice e1 L.pts.length f1, .slice e2 L.sigs.length f2] 36) := ⟨_, rfl⟩
      have c3 : Ch Noone wr w3 := by rw [hw3]; exact c2.alloc _
      have HP3 := Lib.hid (HP1.out.pure c3)
      have A3 : Hid (Agree w m (lab m1 wr.heap.size 9)) := A1.out.trans (Agree.lab _ _ _) hch.size
      have ag := Agree.lab wr m1 9
      have HR3 := Lib.hid (HB.out.keep HRb.out c3.mineNo ag)
      have hz2 : wr.heap.size ≤ w2.heap.size := c2.size
      have HB3 : Hid (Blk w3 w2.heap.size 36 #[.slice e1 L.pts.length f1, .slice e2 L.sigs.length f2]) := by rw [hw3]; exact Blk.new _ _ _
      have HM3 : Hid (lab m1 wr.heap.size 9 w2.heap.size = 9) := lab_ge hz2
      have HO3 : Hid (OutAt (fun g => lab m1 wr.heap.size 9 g = 9 ∧ (g ≠ w2.heap.size ∧ w.heap.size < g)) w3 (.agg #[.slice e1 L.pts.length f1, .slice e2 L.sigs.length f2]) (zeros L.pts.length) (nots L.sigs.length)) := by
        have h : OutAt (New wr.heap.size) w2 (.agg #[.slice e1 L.pts.length f1, .slice e2 L.sigs.length f2]) (zeros L.pts.length) (nots L.sigs.length) := ⟨_, _, rfl, by simpa [zeros] using HD.out, by simpa [nots] using HQ.out⟩
        rw [hw3]
        exact (h.mono fun g hg hl => ⟨lab_ge hg, by omega, by have h' : wr.heap.size ≤ g := hg; omega⟩).ch ((Ch.refl Noone _).alloc _) fun _ _ _ h => h
      have HC3 : Hid (Ch (Mine m) w w3) := (hch.trans c3).mineNo
      have HW3 := Lib.hid hw3
      obtain ⟨ob, hob⟩ : ∃ ob, ob = w2.heap.size := ⟨_, rfl⟩
      have hobr : ob ≠ w.heap.size := by omega
      have HOz : Hid (w.heap.size ≤ ob) := by unfold Hid; omega
      obtain ⟨l0, l1, -, -, -, -, -⟩ := (HP1.out.pure c2).cells
      have hp2 := (HP1.out.pure c2).blk.lt
      clear hw3 c3 ag
      generalize lab m1 wr.heap.size 9 = m3 at *
      rw [← hob] at HB3 HM3 HO3
      have HOB := Lib.hid hob
      clear hob
      have ix0 : ∀ w, (Instr.index 71 (.agg #[.pointer (some ⟨a0, 0, none⟩), .pointer (some ⟨a1, 0, none⟩)]) (.int .i64 0)).run Tryz.prog w = .ok (.pointer (some ⟨a0, 0, none⟩)) w := fun _ => by kernel_rfl
      have ix1 : ∀ w, (Instr.index 71 (.agg #[.pointer (some ⟨a0, 0, none⟩), .pointer (some ⟨a1, 0, none⟩)]) (.int .i64 1)).run Tryz.prog w = .ok (.pointer (some ⟨a1, 0, none⟩)) w := fun _ => by kernel_rfl
      go_wp2_with fail
      clear l0 l1 hp2
      rw [← HW3.out, ← HOB.out]
      go_loopw [37] (fun i wq => ∃ (m4 : Nat → Nat) (ps4 : PS) (e1 e2 : Option Addr) (f1 f2 : Nat), ((i = .int .i64 0 ∧ ps4 = ps) ∨ (i = .int .i64 1 ∧ ps4 = { ps with u0 := ps.u0.cyc }) ∨ (i = .int .i64 2 ∧ ps4 = { ps with u0 := ps.u0.cyc, u1 := ps.u1.cyc })) ∧ Agree w m m4 ∧ PairP m4 wq p a0 a1 r k f s L ps4 ∧ Ch (Mine m) w wq ∧ Blk wq ob 36 #[.slice e1 L.pts.length f1, .slice e2 L.sigs.length f2] ∧ m4 ob = 9 ∧
        OutAt (fun g => m4 g = 9 ∧ (g ≠ ob ∧ w.heap.size < g)) wq (.agg #[.slice e1 L.pts.length f1, .slice e2 L.sigs.length f2]) (zeros L.pts.length) (nots L.sigs.length) ∧ Blk wq w.heap.size 36 #[.slice none 0 0, .slice none 0 0] ∧ m4 w.heap.size = 9) (fun i _ => (2 - intOf i).toNat)
      case atStart => exact ⟨m3, ps, e1, e2, f1, f2, .inl ⟨rfl, rfl⟩, A3.out, HP3.out, HC3.out, HB3.out, HM3.out, HO3.out, HR3.out.1, HR3.out.2⟩
      case round =>
        obtain ⟨m4, ps4, e1, e2, f1, f2, hi, ha4, hp4, hc4, hb4, hm4, ho4, hr4, hmr4⟩ := hrel
        have HA4 := Lib.hid ha4
        have HP4 := Lib.hid hp4
        have HC4 := Lib.hid hc4
        have HB4 := Lib.hid hb4
        have HM4 := Lib.hid hm4
        have HO4 := Lib.hid ho4
        have HR4 := Lib.hid hr4
        have HMR4 := Lib.hid hmr4
        clear ha4 hp4 hc4 hb4 hm4 ho4 hr4 hmr4 HP1 A1 HP3 A3 HR3 HB3 HM3 HO3 HC3 HD HQ HB HOw
        rcases hi with ⟨rfl, hps⟩ | ⟨rfl, hps⟩ | ⟨rfl, hps⟩
        all_goals
          rw [hps] at HP4
          clear hps
        · have HCn := Lib.hid (relay_con _ _ _ HP4.out.relay)
          have HIn := Lib.hid (field_in _ _ _ _ _ HP4.out.field HO.out HPL.out)
          obtain ⟨-, -, l2, -, l4, -, -⟩ := HP4.out.cells
          cases hon : (ps.re.con == 0)
          all_goals
            go_wp2_with fail
            refine HCn.out.mono ?_
            rintro x w4 ⟨rfl, rfl⟩
            go_wp2_with fail
            refine HIn.out.mono ?_
            rintro x w5 ⟨⟨x1, x2, rfl, -⟩, c5⟩
            have HP5 := Lib.hid (HP4.out.pure c5)
            have A5 : Hid (Agree w m (lab m4 w4.heap.size 9)) := HA4.out.trans (Agree.lab _ _ _) HC4.out.size
            have HC5 : Hid (Ch (Mine m) w w5) := HC4.out.then c5 fun _ _ h => h.elim
            have ag := Agree.lab w4 m4 9
            have HB5 := Lib.hid (HB4.out.keep HM4.out c5.mineNo ag)
            have HO5 := Lib.hid (HO4.out.keep c5.mineNo ag)
            have HR5 := Lib.hid (HR4.out.keep HMR4.out c5.mineNo ag)
            clear ag
            generalize lab m4 w4.heap.size 9 = m5 at *
            obtain ⟨rs5, hu5⟩ := HP5.out.u0
            have hu5' := hu5.mono (O' := fun g => m5 g = 5 ∧ g < w5.heap.size) (fun g hg hl => ⟨hg, hl⟩)
            have HCy := Lib.hid (fun on => unit_cycle0 _ w5 _ L ps.u0 rs5 x1 x2 u5 on hu5' OK.out M0.out.m3 M0.out.c0 M0.out.l0 M0.out.l1)
            clear hu5 hu5'
            go_wp2_with fail
            refine (HCy.out _).mono ?_
            rintro x w6 ⟨⟨vo, rfl, hout⟩, hu6, c6⟩
            have HU6 := Lib.hid hu6
            have c6' : Ch (fun g => m5 g = 5) w5 w6 := c6.mono fun g _ h => h.1
            obtain ⟨z1, z2, rfl, hd, hq⟩ := hout
            have HD6 := Lib.hid hd
            have HQ6 := Lib.hid hq
            obtain ⟨e3, f3, rfl, -, -, -, -⟩ := hd.sl
            obtain ⟨e4, f4, rfl, -, -, -, -⟩ := hq.sl
            have HP6 := Lib.hid (HP5.out.stepU0o c6' ⟨_, HU6.out⟩)
            have ag := Agree.lab w5 m5 9
            have A6 : Hid (Agree w m (lab m5 w5.heap.size 9)) := A5.out.trans ag HC5.out.size
            have c6m : Ch (Mine m5) w5 w6 := c6'.mine (by decide)
            have HC6 : Hid (Ch (Mine m) w w6) := HC5.out.next A5.out c6m
            have HB6 := Lib.hid (HB5.out.1.keep HB5.out.2 c6m ag)
            have HO6 := Lib.hid (HO5.out.keep c6m ag)
            have HR6 := Lib.hid (HR5.out.1.keep HR5.out.2 c6m ag)
            have hb6 := HB6.out.1
            have t0 : w6.cell? ⟨ob, 0, none⟩ = some (.slice e1 L.pts.length f1) := hb6.cell 0
            have t1 : w6.cell? ⟨ob, 1, none⟩ = some (.slice e2 L.sigs.length f2) := hb6.cell 1
            have q0 := hb6.free 0
            have q1 := hb6.free 1
            have hob6 := hb6.lt
            have hob5 := HB5.out.1.lt
            have hrb5 := HR5.out.1.lt
            simp only [List.length_replicate] at hd hq
            have HN6 : Hid (OutAt (fun g => lab m5 w5.heap.size 9 g = 9 ∧ (g ≠ ob ∧ w.heap.size < g)) w6 (.agg #[.slice e3 L.pts.length f3, .slice e4 L.sigs.length f4]) (zeros L.pts.length) (nots L.sigs.length)) := by
              have h : OutAt (New w5.heap.size) w6 (.agg #[.slice e3 L.pts.length f3, .slice e4 L.sigs.length f4]) (zeros L.pts.length) (nots L.sigs.length) := ⟨_, _, rfl, by simpa [zeros] using hd, by simpa [nots] using hq⟩
              exact h.mono fun g hg hl => by have h' : w5.heap.size ≤ g := hg; exact ⟨lab_ge hg, by omega, by omega⟩
            clear hd hq hu6 hb6 ag hob5 hrb5
            generalize lab m5 w5.heap.size 9 = m6 at *
            go_wp2_with fail
            go_roundw
          · have cA : Ch Noone w6 (w6.alloc (.cells #[.slice e3 L.pts.length f3, .slice e4 L.sigs.length f4] 36)) := (Ch.refl _ _).alloc _
            have ag := Agree.lab w6 m6 9
            have hB := HB6.out.1.keep HB6.out.2 cA.mineNo ag
            have hR := HR6.out.1.keep HR6.out.2 cA.mineNo ag
            exact ⟨_, _, e1, e2, f1, f2, .inr (.inl ⟨rfl, rfl⟩), A6.out.trans ag HC6.out.size, HP6.out.pure cA, HC6.out.then cA (fun _ _ h => h.elim), hB.1, hB.2, HO6.out.keep cA.mineNo ag, hR.1, hR.2⟩
          · simp [intOf]
          · have cT : Ch (fun g => g = ob) w6 (((w6.setCell ⟨ob, 0, none⟩ (.slice e3 L.pts.length f3)).setCell ⟨ob, 1, none⟩ (.slice e4 L.sigs.length f4)).alloc (.cells #[.slice e3 L.pts.length f3, .slice e4 L.sigs.length f4] 36)) := (((Ch.refl _ _).set1 _ _).set1 _ _).alloc _
            have hB0 := (HB6.out.1.set 0 (.slice e3 L.pts.length f3)).set 1 (.slice e4 L.sigs.length f4)
            have hB1 : Blk ((w6.setCell ⟨ob, 0, none⟩ (.slice e3 L.pts.length f3)).setCell ⟨ob, 1, none⟩ (.slice e4 L.sigs.length f4)) ob 36 #[.slice e3 L.pts.length f3, .slice e4 L.sigs.length f4] := by simpa using hB0
            have hB := hB1.alloc (.cells #[.slice e3 L.pts.length f3, .slice e4 L.sigs.length f4] 36)
            have ag := Agree.lab w6 m6 9
            have hob9 := HB6.out.2
            have hrb9 := HR6.out.2
            have hz : w.heap.size ≤ ob := HOz.out
            refine ⟨_, _, e3, e4, f3, f4, .inr (.inl ⟨rfl, rfl⟩), A6.out.trans ag HC6.out.size, HP6.out.pure9 (cT.mono fun g _ e => by rw [e]; exact hob9), HC6.out.then cT (fun i hi e => by omega), hB, (ag ob hob6).trans hob9, ?_, cT.blk HR6.out.1 hobr.symm, (ag _ HR6.out.1.lt).trans hrb9⟩
            exact ((HN6.out.mono (O' := fun g => (m6 g = 9 ∧ (g ≠ ob ∧ w.heap.size < g)) ∧ g < w6.heap.size) fun g hg hl => ⟨hg, hl⟩).ch cT fun g hg _ e => hg.1.2.1 e).mono fun g hg _ => ⟨(ag g hg.2).trans hg.1.1, hg.1.2⟩
          · simp [intOf]
        · have HCn := Lib.hid (relay_con _ _ _ HP4.out.relay)
          have HIn := Lib.hid (field_in _ _ _ _ _ HP4.out.field HO.out HPL.out)
          obtain ⟨-, -, l2, -, l4, -, -⟩ := HP4.out.cells
          cases hon : (ps.re.con == 1)
          all_goals
            go_wp2_with fail
            refine HCn.out.mono ?_
            rintro x w4 ⟨rfl, rfl⟩
            go_wp2_with fail
            refine HIn.out.mono ?_
            rintro x w5 ⟨⟨x1, x2, rfl, -⟩, c5⟩
            have HP5 := Lib.hid (HP4.out.pure c5)
            have A5 : Hid (Agree w m (lab m4 w4.heap.size 9)) := HA4.out.trans (Agree.lab _ _ _) HC4.out.size
            have HC5 : Hid (Ch (Mine m) w w5) := HC4.out.then c5 fun _ _ h => h.elim
            have ag := Agree.lab w4 m4 9
            have HB5 := Lib.hid (HB4.out.keep HM4.out c5.mineNo ag)
            have HO5 := Lib.hid (HO4.out.keep c5.mineNo ag)
            have HR5 := Lib.hid (HR4.out.keep HMR4.out c5.mineNo ag)
            clear ag
            generalize lab m4 w4.heap.size 9 = m5 at *
            obtain ⟨rs5, hu5⟩ := HP5.out.u1
            have hu5' := hu5.mono (O' := fun g => m5 g = 6 ∧ g < w5.heap.size) (fun g hg hl => ⟨hg, hl⟩)
            have HCy := Lib.hid (fun on => unit_cycle0 _ w5 _ L ps.u1 rs5 x1 x2 u5 on hu5' OK.out M1.out.m3 M1.out.c0 M1.out.l0 M1.out.l1)
            clear hu5 hu5'
            go_wp2_with fail
            refine (HCy.out _).mono ?_
            rintro x w6 ⟨⟨vo, rfl, hout⟩, hu6, c6⟩
            have HU6 := Lib.hid hu6
            have c6' : Ch (fun g => m5 g = 6) w5 w6 := c6.mono fun g _ h => h.1
            obtain ⟨z1, z2, rfl, hd, hq⟩ := hout
            have HD6 := Lib.hid hd
            have HQ6 := Lib.hid hq
            obtain ⟨e3, f3, rfl, -, -, -, -⟩ := hd.sl
            obtain ⟨e4, f4, rfl, -, -, -, -⟩ := hq.sl
            have HP6 := Lib.hid (HP5.out.stepU1o c6' ⟨_, HU6.out⟩)
            have ag := Agree.lab w5 m5 9
            have A6 : Hid (Agree w m (lab m5 w5.heap.size 9)) := A5.out.trans ag HC5.out.size
            have c6m : Ch (Mine m5) w5 w6 := c6'.mine (by decide)
            have HC6 : Hid (Ch (Mine m) w w6) := HC5.out.next A5.out c6m
            have HB6 := Lib.hid (HB5.out.1.keep HB5.out.2 c6m ag)
            have HO6 := Lib.hid (HO5.out.keep c6m ag)
            have HR6 := Lib.hid (HR5.out.1.keep HR5.out.2 c6m ag)
            have hb6 := HB6.out.1
            have t0 : w6.cell? ⟨ob, 0, none⟩ = some (.slice e1 L.pts.length f1) := hb6.cell 0
            have t1 : w6.cell? ⟨ob, 1, none⟩ = some (.slice e2 L.sigs.length f2) := hb6.cell 1
            have q0 := hb6.free 0
            have q1 := hb6.free 1
            have hob6 := hb6.lt
            have hob5 := HB5.out.1.lt
            have hrb5 := HR5.out.1.lt
            simp only [List.length_replicate] at hd hq
            have HN6 : Hid (OutAt (fun g => lab m5 w5.heap.size 9 g = 9 ∧ (g ≠ ob ∧ w.heap.size < g)) w6 (.agg #[.slice e3 L.pts.length f3, .slice e4 L.sigs.length f4]) (zeros L.pts.length) (nots L.sigs.length)) := by
              have h : OutAt (New w5.heap.size) w6 (.agg #[.slice e3 L.pts.length f3, .slice e4 L.sigs.length f4]) (zeros L.pts.length) (nots L.sigs.length) := ⟨_, _, rfl, by simpa [zeros] using hd, by simpa [nots] using hq⟩
              exact h.mono fun g hg hl => by have h' : w5.heap.size ≤ g := hg; exact ⟨lab_ge hg, by omega, by omega⟩
            clear hd hq hu6 hb6 ag hob5 hrb5
            generalize lab m5 w5.heap.size 9 = m6 at *
            go_wp2_with fail
            go_roundw
          · have cA : Ch Noone w6 (w6.alloc (.cells #[.slice e3 L.pts.length f3, .slice e4 L.sigs.length f4] 36)) := (Ch.refl _ _).alloc _
            have ag := Agree.lab w6 m6 9
            have hB := HB6.out.1.keep HB6.out.2 cA.mineNo ag
            have hR := HR6.out.1.keep HR6.out.2 cA.mineNo ag
            exact ⟨_, _, e1, e2, f1, f2, .inr (.inr ⟨rfl, rfl⟩), A6.out.trans ag HC6.out.size, HP6.out.pure cA, HC6.out.then cA (fun _ _ h => h.elim), hB.1, hB.2, HO6.out.keep cA.mineNo ag, hR.1, hR.2⟩
          · simp [intOf]
          · have cT : Ch (fun g => g = ob) w6 (((w6.setCell ⟨ob, 0, none⟩ (.slice e3 L.pts.length f3)).setCell ⟨ob, 1, none⟩ (.slice e4 L.sigs.length f4)).alloc (.cells #[.slice e3 L.pts.length f3, .slice e4 L.sigs.length f4] 36)) := (((Ch.refl _ _).set1 _ _).set1 _ _).alloc _
            have hB0 := (HB6.out.1.set 0 (.slice e3 L.pts.length f3)).set 1 (.slice e4 L.sigs.length f4)
            have hB1 : Blk ((w6.setCell ⟨ob, 0, none⟩ (.slice e3 L.pts.length f3)).setCell ⟨ob, 1, none⟩ (.slice e4 L.sigs.length f4)) ob 36 #[.slice e3 L.pts.length f3, .slice e4 L.sigs.length f4] := by simpa using hB0
            have hB := hB1.alloc (.cells #[.slice e3 L.pts.length f3, .slice e4 L.sigs.length f4] 36)
            have ag := Agree.lab w6 m6 9
            have hob9 := HB6.out.2
            have hrb9 := HR6.out.2
            have hz : w.heap.size ≤ ob := HOz.out
            refine ⟨_, _, e3, e4, f3, f4, .inr (.inr ⟨rfl, rfl⟩), A6.out.trans ag HC6.out.size, HP6.out.pure9 (cT.mono fun g _ e => by rw [e]; exact hob9), HC6.out.then cT (fun i hi e => by omega), hB, (ag ob hob6).trans hob9, ?_, cT.blk HR6.out.1 hobr.symm, (ag _ HR6.out.1.lt).trans hrb9⟩
            exact ((HN6.out.mono (O' := fun g => (m6 g = 9 ∧ (g ≠ ob ∧ w.heap.size < g)) ∧ g < w6.heap.size) fun g hg hl => ⟨hg, hl⟩).ch cT fun g hg _ e => hg.1.2.1 e).mono fun g hg _ => ⟨(ag g hg.2).trans hg.1.1, hg.1.2⟩
          · simp [intOf]
        · have hb := HB4.out
          have hr := HR4.out
          have t0 : wr.cell? ⟨ob, 0, none⟩ = some (.slice e1 L.pts.length f1) := hb.cell 0
          have t1 : wr.cell? ⟨ob, 1, none⟩ = some (.slice e2 L.sigs.length f2) := hb.cell 1
          have r0 : wr.cell? ⟨w.heap.size, 0, none⟩ = some (.slice none 0 0) := hr.cell 0
          have r1 : wr.cell? ⟨w.heap.size, 1, none⟩ = some (.slice none 0 0) := hr.cell 1
          have g0 := hr.free 0
          have g1 := hr.free 1
          clear hb hr
          go_wp2_with fail
          (try simp only [Exit.inBlock, Exit.then])
          have cT : Ch (fun g => g = w.heap.size) wr ((wr.setCell ⟨w.heap.size, 0, none⟩ (.slice e1 L.pts.length f1)).setCell ⟨w.heap.size, 1, none⟩ (.slice e2 L.sigs.length f2)) := ((Ch.refl _ _).set1 _ _).set1 _ _
          have hx0 := (HR4.out.set 0 (.slice e1 L.pts.length f1)).set 1 (.slice e2 L.sigs.length f2)
          have hx2 : Blk ((wr.setCell ⟨w.heap.size, 0, none⟩ (.slice e1 L.pts.length f1)).setCell ⟨w.heap.size, 1, none⟩ (.slice e2 L.sigs.length f2)) w.heap.size 36 #[.slice e1 L.pts.length f1, .slice e2 L.sigs.length f2] := by simpa using hx0
          refine bodyPost_ret (results_cell_row (P := Tryz.prog) rfl _ _ w.heap.size _ _ _ _ rfl hx2 Tryz.underlying36 rfl (by kernel_rfl)) rfl ?_
          have ag := Agree.lab wr m4 9
          refine ⟨_, _, _, rfl, ?_, HA4.out.trans ag HC4.out.size, HP4.out.pure9 (cT.mono fun g _ e => by rw [e]; exact HMR4.out), HC4.out.then cT fun i hi e => by omega⟩
          exact ((HO4.out.mono (O' := fun g => (m4 g = 9 ∧ (g ≠ ob ∧ w.heap.size < g)) ∧ g < wr.heap.size) fun g hg hl => ⟨hg, hl⟩).ch cT fun g hg _ e => by have := hg.1.2.2; omega).mono fun g hg _ => ⟨(ag g hg.2).trans hg.1.1, Nat.le_of_lt hg.1.2.2⟩
end Go.Proofs.YtkplgggdidhnoaaGreatDoor

namespace Go.Proofs.YtkplgggdidhnoaaGreatDoor
open Go.ChangeShapes Go.WideShapes Go.ChangeAt Go.RowKit
set_option linter.unusedVariables false

set_option maxRecDepth 100000 in
set_option maxHeartbeats 8000000 in
theorem pair_ends0 {m : Nat → Nat} {w : World} {p a0 a1 r k f s : Nat} {L : Lay} {ps : PS} (v : Value) (es : List Ev) (hv : Sl (fun g => m g = 9) w v es.length (es.flatMap fEv)) (hl : es.length ≤ 1000) (h : PairP m w p a0 a1 r k f s L ps) (m0 : ps.u0.mode ≠ 3) (m1 : ps.u1.mode ≠ 3) (hln : ps.ln = LS.new) :
    Calls Tryz.prog 36 #[.pointer (some ⟨p, 0, none⟩), v] w fun x w' => x = .returned (.tuple #[]) ∧ PStep m w p a0 a1 r k f s L w' (fun ps' => ps' = ps) := by
  have HV := Lib.hid hv
  have HP := Lib.hid h
  have M0 := Lib.hid m0
  have M1 := Lib.hid m1
  have HL := Lib.hid hln
  obtain ⟨av, cv, rfl, -, -, -, -⟩ := hv
  clear h m0 m1 hln
  go_enter Tryz.func36, Tryz.ntmps36
  go_wp2_with fail
  go_loopw [4, 5, 12] (fun q1 q2 i wr => ∃ (j : Nat) (lo : Bool) (sp : Int), j ≤ es.length ∧ i = .int .i64 j ∧ q1 = .bool lo ∧ q2 = .int .i64 sp ∧ Ch Noone w wr) (fun _ _ i _ => (es.length - intOf i).toNat)
  case atStart => exact ⟨0, false, -1, by omega, rfl, rfl, rfl, Ch.refl _ _⟩
  case round =>
    obtain ⟨j, lo, sp, hj, rfl, rfl, rfl, hch⟩ := hrel
    by_cases hjl : j < es.length
    · obtain ⟨b, off, rfl, hb9, hbw, hat⟩ := HV.out.at (f := fEv) (C := 5) (fun _ => rfl) (by omega) hjl
      have y0 : wr.cell? ⟨b, off + j * 5, none⟩ = some (.int .i64 es[j].kind) := (hch.rd hbw _).trans (hat 0 (by omega))
      have y1 : wr.cell? ⟨b, off + j * 5 + 1, none⟩ = some (.int .i64 es[j].unit) := (hch.rd hbw _).trans (hat 1 (by omega))
      have y2 : wr.cell? ⟨b, off + j * 5 + 2, none⟩ = some (.int .i64 es[j].n) := (hch.rd hbw _).trans (hat 2 (by omega))
      have y3 : wr.cell? ⟨b, off + j * 5 + 3, none⟩ = some (.int .i64 es[j].ck) := (hch.rd hbw _).trans (hat 3 (by omega))
      have y4 : wr.cell? ⟨b, off + j * 5 + 4, none⟩ = some (.int .i64 es[j].cr) := (hch.rd hbw _).trans (hat 4 (by omega))
      have hj0 : (0 : Int) ≤ j := by omega
      have hj1 : (j : Int) < es.length := by omega
      clear hat
      generalize es[j] = e at *
      obtain ⟨ek, eu, en, ec, er⟩ := e
      dsimp only at *
      cases lo
      all_goals
        go_wp2_with fail
        all_goals
          go_roundw
          case rel => exact ⟨j + 1, _, _, by omega, by go_num, rfl, rfl, hch.alloc _⟩
          case measure => simp [intOf]; omega
    · have HP1 := Lib.hid (HP.out.pure hch)
      have A1 : Hid (Agree w m (lab m w.heap.size 9)) := Agree.lab _ _ _
      generalize lab m w.heap.size 9 = m1 at *
      have C1 : Hid (Ch (Mine m) w wr) := hch.mineNo
      obtain ⟨l0, l1, -, -, -, -, -⟩ := HP1.out.cells
      have ix0 : ∀ w, (Instr.index 71 (.agg #[.pointer (some ⟨a0, 0, none⟩), .pointer (some ⟨a1, 0, none⟩)]) (.int .i64 0)).run Tryz.prog w = .ok (.pointer (some ⟨a0, 0, none⟩)) w := fun _ => by kernel_rfl
      have ix1 : ∀ w, (Instr.index 71 (.agg #[.pointer (some ⟨a0, 0, none⟩), .pointer (some ⟨a1, 0, none⟩)]) (.int .i64 1)).run Tryz.prog w = .ok (.pointer (some ⟨a1, 0, none⟩)) w := fun _ => by kernel_rfl
      go_wp2_with fail
      clear l0 l1
      go_loopw [41] (fun i wq => (i = .int .i64 0 ∨ i = .int .i64 1 ∨ i = .int .i64 2) ∧ PairP m1 wq p a0 a1 r k f s L ps ∧ Ch Noone wr wq) (fun i _ => (2 - intOf i).toNat)
      case atStart => exact ⟨.inl rfl, HP1.out, Ch.refl _ _⟩
      case round =>
        clear HP1
        obtain ⟨hi, hp, hcq⟩ := hrel
        have HP1 := Lib.hid hp
        clear hp
        obtain ⟨rs0, hu0⟩ := HP1.out.u0
        obtain ⟨rs1, hu1⟩ := HP1.out.u1
        obtain ⟨-, -, -, l3, -, -, -⟩ := HP1.out.cells
        have HS0 : Hid (∀ j, _) := fun j => unit_send0 _ (wr.drewN j) _ _ _ _ (hu0.ch ((Ch.refl Noone wr).drewN j) (fun _ _ _ h => h)) M0.out
        have HS1 : Hid (∀ j, _) := fun j => unit_send0 _ (wr.drewN j) _ _ _ _ (hu1.ch ((Ch.refl Noone wr).drewN j) (fun _ _ _ h => h)) M1.out
        have HK0 : Hid (∀ j, _) := fun j => link_send0 (wr.drewN j) k 0 (.inl rfl) none 0
        have HK1 : Hid (∀ j, _) := fun j => link_send0 (wr.drewN j) k 1 (.inr rfl) none 0
        clear hu0 hu1
        rcases hi with rfl | rfl | rfl
        · go_wp2_with fail
          go_big_quiet ((first | (go_at_call 73; with_reducible refine Calls.quiet_of_same (HS0.out _)) | (go_at_call 72; with_reducible refine Calls.quiet_of_same (HK0.out _))))
          go_wp2_with fail
          go_roundw
          case rel => exact ⟨.inr (.inl rfl), HP1.out.drewN _, hcq.drewN _⟩
          case measure => simp [intOf]
        · go_wp2_with fail
          go_big_quiet ((first | (go_at_call 73; with_reducible refine Calls.quiet_of_same (HS1.out _)) | (go_at_call 72; with_reducible refine Calls.quiet_of_same (HK1.out _))))
          go_wp2_with fail
          go_roundw
          case rel => exact ⟨.inr (.inr rfl), HP1.out.drewN _, hcq.drewN _⟩
          case measure => simp [intOf]
        · have hln := HP1.out.link
          rw [HL.out] at hln
          have HT := Lib.hid (link_turn0 _ _ _ lo sp hln)
          clear hln
          go_wp2_with fail
          refine HT.out.mono ?_
          rintro x w3 ⟨rfl, h3, c3⟩
          have H3 := Lib.hid h3
          clear h3
          go_wp2_with fail
          go_end0
          have h4 := HP1.out.stepLink c3 (H3.out.mono fun g hg _ => .inl hg)
          have e : { ps with ln := LS.new } = ps := by rw [← HL.out]
          rw [e] at h4
          have a4 : Agree wr m1 (lab m1 wr.heap.size 2) := Agree.lab _ _ _
          have cq : Ch (Mine m) w wr := C1.out.then hcq fun _ _ h => h.elim
          exact ⟨rfl, _, _, A1.out.trans (fun g hg => a4 g (Nat.lt_of_lt_of_le hg hcq.size)) C1.out.size, h4, rfl, cq.next A1.out (c3.mine (by decide))⟩
end Go.Proofs.YtkplgggdidhnoaaGreatDoor
