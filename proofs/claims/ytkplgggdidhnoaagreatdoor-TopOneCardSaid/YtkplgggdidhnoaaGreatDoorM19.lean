/-
  The contract of pair: tells, of any units. Conditions: sizes. The contract of pair: ends, where no unit is Active. Conditions: sizes.
-/
import Derived.Test.YtkplgggdidhnoaaGreatDoorM18
import Derived.Test.YtkplgggdidhnoaaGreatDoorM32
import Derived.Test.YtkplgggdidhnoaaGreatDoorM03
namespace Go.Proofs.YtkplgggdidhnoaaGreatDoor
open Go.ChangeShapes Go.WideShapes Go.ChangeAt Go.RowKit
set_option linter.unusedVariables false

theorem info_cmd : (Tryz.prog.info? 50).map (fun i => (i.zero, i.size, i.bytes)) = some (some (.agg #[.int .i64 0, .int .i64 0]), 2, 16) := by kernel_rfl
theorem one_int2 (a b : Int) : ∀ u ∈ [Value.int .i64 a, .int .i64 b], u.oneCell' = true := by intro u hu; simp at hu; rcases hu with rfl | rfl <;> rfl
theorem OutAt.keep {m m1 : Nat → Nat} {w w1 : World} {v : Value} {d : List Int} {q : List Bool} {P : Nat → Prop} (h : OutAt (fun g => m g = 9 ∧ P g) w v d q) (c : Ch (Mine m) w w1) (a : Agree w m m1) : OutAt (fun g => m1 g = 9 ∧ P g) w1 v d q :=
  ((h.mono (O' := fun g => (m g = 9 ∧ P g) ∧ g < w.heap.size) fun g hg hl => ⟨hg, hl⟩).ch c fun g hg _ h => by have h' : m g ≤ 6 := h; have := hg.1.1; omega).mono fun g hg _ => ⟨(a g hg.2).trans hg.1.1, hg.1.2⟩
theorem Blk.keep {m m1 : Nat → Nat} {w w1 : World} {b : Nat} {T : TypeId} {cs : Array Value} (h : Blk w b T cs) (hm : m b = 9) (c : Ch (Mine m) w w1) (a : Agree w m m1) : Blk w1 b T cs ∧ m1 b = 9 :=
  ⟨c.blk h fun h => by have h' : m b ≤ 6 := h; omega, (a b h.lt).trans hm⟩
/-- What a unit may be before its cycle here. -/
structure US.Mild (u : US) : Prop where
  c0 : -9223372036854775808 ≤ u.count
  l0 : -30000 ≤ u.left
  l1 : u.left ≤ 30000
def zeros (n : Nat) : List Int := List.replicate n 0
def nots (n : Nat) : List Bool := List.replicate n false

/-- The commands among events. -/
def cmdsOf (es : List Ev) : List Cmd := (es.filter fun e => e.kind == 8).map fun e => ⟨e.ck, e.cr⟩
theorem cmdsOf_len (es : List Ev) : (cmdsOf es).length ≤ es.length := by
  unfold cmdsOf; rw [List.length_map]; exact List.length_filter_le _ _
/-- What both units' cycles do, and what the field is told. -/
def PS.Tells (L : Lay) (es : List Ev) (ps ps' : PS) (d : List Int) (q : List Bool) : Prop :=
  ∃ u0 d0 q0 u1 d1 q1, ps.u0.Cyc L ps.occ (ps.pts.map (·.lies)) (ps.re.con == 0) (cmdsOf es) u0 d0 q0 ∧ ps.u1.Cyc L ps.occ (ps.pts.map (·.lies)) (ps.re.con == 1) (cmdsOf es) u1 d1 q1 ∧ ps' = { ps with u0 := u0, u1 := u1 } ∧
    d = (if (ps.re.con == 1) = true then d1 else if (ps.re.con == 0) = true then d0 else zeros L.pts.length) ∧ q = (if (ps.re.con == 1) = true then q1 else if (ps.re.con == 0) = true then q0 else nots L.sigs.length)

set_option maxRecDepth 100000 in
set_option maxHeartbeats 8000000 in
theorem pair_tells {m : Nat → Nat} {w : World} {p a0 a1 r k f s : Nat} {L : Lay} {ps : PS} (v : Value) (es : List Ev) (hv : Sl (fun g => m g = 9) w v es.length (es.flatMap fEv)) (hl : es.length ≤ 1000) (h : PairP m w p a0 a1 r k f s L ps) (ok : LayOk L) (m0 : ps.u0.Mild) (m1 : ps.u1.Mild) :
    Calls Tryz.prog 34 #[.pointer (some ⟨p, 0, none⟩), v] w fun x w' => ∃ v1 v2 m' ps' d q, x = .returned (.agg #[v1, v2]) ∧ OutAt (fun g => m' g = 9 ∧ w.heap.size ≤ g) w' (.agg #[v1, v2]) d q ∧ PS.Tells L es ps ps' d q ∧
      Agree w m m' ∧ PairP m' w' p a0 a1 r k f s L ps' ∧ Ch (Mine m) w w' := by
  have HV := Lib.hid hv
  have HP := Lib.hid h
  have OK := Lib.hid ok
  have M0 := Lib.hid m0
  have M1 := Lib.hid m1
  have ho : ps.occ.length ≤ 100 := by have := h.ol; have := ok.s1; omega
  have hpl : ps.pts.length ≤ 100 := by have := h.pl; have := ok.p1; omega
  have HO := Lib.hid ho
  have HPL := Lib.hid hpl
  obtain ⟨av, cv, rfl, -, -, -, -⟩ := hv
  clear h ok m0 m1 ho hpl
  obtain ⟨i0, hi0, hz0, hz1, hz2⟩ := info_parts info_cmd
  go_enter Tryz.func34, Tryz.ntmps34
  go_wp2_with fail
  go_loopw [5, 15] (fun q i wr => ∃ (j n : Nat) (cs : List Cmd), j ≤ es.length ∧ i = .int .i64 j ∧ n ≤ j ∧ Hid (cs.length = n ∧ cs = cmdsOf (es.take j)) ∧ Ch Noone w wr ∧ Blk wr w.heap.size 36 #[.slice none 0 0, .slice none 0 0] ∧ Own (New (w.heap.size + 1)) wr 50 2 q n (cs.flatMap fCmd)) (fun _ i _ => (es.length - intOf i).toNat)
  case atStart => exact ⟨0, 0, [], by omega, rfl, by omega, ⟨rfl, rfl⟩, (Ch.refl _ _).alloc _, Blk.new _ _ _, rfl, .inl ⟨rfl, rfl⟩⟩
  case round =>
    obtain ⟨j, n, cs, hj, rfl, hnj, HCs, hch, hb, hown⟩ := hrel
    have HOw := Lib.hid hown
    have HB := Lib.hid hb
    have hlt := hb.lt
    clear hown hb
    by_cases hjl : j < es.length
    · obtain ⟨b, off, rfl, hb9, hbw, hat⟩ := HV.out.at (f := fEv) (C := 5) (fun _ => rfl) (by omega) hjl
      have y0 : wr.cell? ⟨b, off + j * 5, none⟩ = some (.int .i64 es[j].kind) := (hch.rd hbw _).trans (hat 0 (by omega))
      have y1 : wr.cell? ⟨b, off + j * 5 + 1, none⟩ = some (.int .i64 es[j].unit) := (hch.rd hbw _).trans (hat 1 (by omega))
      have y2 : wr.cell? ⟨b, off + j * 5 + 2, none⟩ = some (.int .i64 es[j].n) := (hch.rd hbw _).trans (hat 2 (by omega))
      have y3 : wr.cell? ⟨b, off + j * 5 + 3, none⟩ = some (.int .i64 es[j].ck) := (hch.rd hbw _).trans (hat 3 (by omega))
      have y4 : wr.cell? ⟨b, off + j * 5 + 4, none⟩ = some (.int .i64 es[j].cr) := (hch.rd hbw _).trans (hat 4 (by omega))
      have hj0 : (0 : Int) ≤ j := by omega
      have hj1 : (j : Int) < es.length := by omega
      clear hat
      have HTk : Hid (cmdsOf (es.take (j + 1)) = cmdsOf (es.take j) ++ cmdsOf [es[j]]) := by
        show _ = _
        rw [List.take_succ_eq_append_getElem hjl]
        unfold cmdsOf
        rw [List.filter_append, List.map_append]
      generalize es[j] = e at *
      obtain ⟨ek, eu, en, ec, er⟩ := e
      dsimp only at *
      by_cases k8 : ek = 8
      · subst k8
        go_wp2_with (at_builtin; refine And.right (a := True) ?_)
        refine ⟨trivial, ?_⟩
        refine wpList_append_own _ rfl _ _ 129 rfl (w.heap.size + 1) 50 i0 _ 2 16 Tryz.underlying129 hi0 hz0 hz1 hz2 rfl (by decide) _ n (cs.flatMap fCmd) (by exact rfl) (by exact (HOw.out.ch (((Ch.refl Noone wr).alloc _).alloc _) (fun _ _ _ h => h)).row) _ 1 1 [.int .i64 ec, .int .i64 er] (by exact rfl) rfl (by exact fresh_at _ _ (by simp) _ [.int .i64 ec, .int .i64 er]) (one_int2 _ _) (by unfold maxLen; omega) (by omega) (by simp; omega) ?_
        intro v' w2 hown hgrow _
        have cc := Ch.own HOw.out hgrow
        have HO2 := Lib.hid (Own.of hown)
        have hb2 := cc.blk ((HB.out.alloc _).alloc (.cells #[.int .i64 ec, .int .i64 er] 50)) (fun h => by have := h.1; omega)
        have HB2 := Lib.hid hb2
        have CW : Hid (Ch Noone w w2) := ((hch.alloc _).alloc _).then cc fun i hi h => by have := h.1; omega
        clear hb2 hown hgrow cc
        go_wp2_with fail
        go_roundw
        case rel => exact ⟨j + 1, n + 1, cs ++ [⟨ec, er⟩], by omega, by go_num, by omega, ⟨by rw [List.length_append, HCs.out.1]; rfl, by rw [HTk.out, ← HCs.out.2]; rfl⟩, CW.out, HB2.out, by have h := HO2.out; rw [List.flatMap_append]; simpa [fCmd] using h⟩
        case measure => simp [intOf]; omega
      · have k8' : (ek == 8) = false := by simpa using k8
        have K8 := Lib.hid k8'
        clear k8
        go_wp2_with fail
        go_roundw
        case rel => exact ⟨j + 1, n, cs, by omega, by go_num, by omega, ⟨HCs.out.1, by rw [HTk.out, ← HCs.out.2]; have h8 := K8.out; simp [cmdsOf, h8]⟩, hch.alloc _, HB.out.alloc _, HOw.out.ch ((Ch.refl Noone _).alloc _) (fun _ _ _ h => h)⟩
        case measure => simp [intOf]; omega
    · have hjj : j = es.length := by omega
      have HJJ := Lib.hid hjj
      have HCd : Hid (cs = cmdsOf es) := by have h := HCs.out.2; rw [hjj, List.take_length] at h; exact h
      have HCl : Hid (cs.length ≤ 1000) := by have h := HCs.out.1; show _ ≤ _; omega
      have HP1 := Lib.hid (HP.out.pure hch)
      have A1 : Hid (Agree w m (lab m w.heap.size 9)) := Agree.lab _ _ _
      have hrb : lab m w.heap.size 9 w.heap.size = 9 := lab_ge (Nat.le_refl _)
      have HRb := Lib.hid hrb
      clear hrb hjj
      obtain ⟨rsS, hs⟩ := HP1.out.safe
      have HSf := Lib.hid (lock_safe _ _ _ _ _ hs OK.out)
      obtain ⟨-, -, -, -, -, l5, -⟩ := HP1.out.cells
      clear hs
      have M1w : Hid (∀ g, w.heap.size ≤ g → lab m w.heap.size 9 g = 9) := fun g hg => lab_ge hg
      generalize lab m w.heap.size 9 = m1 at *
      go_wp2_with fail
      refine HSf.out.mono ?_
      rintro x w2 ⟨v0, rfl, ⟨z1, z2, rfl, hd, hq⟩, c2⟩
      have HD := Lib.hid hd
      have HQ := Lib.hid hq
      obtain ⟨e1, f1, rfl, -, -, -, -⟩ := hd.sl
      obtain ⟨e2, f2, rfl, -, -, -, -⟩ := hq.sl
      clear hd hq
      simp only [List.length_replicate] at HD HQ
      obtain ⟨w3, hw3⟩ : ∃ w3, w3 = w2.alloc (.cells #[.slice e1 L.pts.length f1, .slice e2 L.sigs.length f2] 36) := ⟨_, rfl⟩
      have c3 : Ch Noone wr w3 := by rw [hw3]; exact c2.alloc _
      have HP3 := Lib.hid (HP1.out.pure c3)
      have A3 : Hid (Agree w m (lab m1 wr.heap.size 9)) := A1.out.trans (Agree.lab _ _ _) hch.size
      have ag := Agree.lab wr m1 9
      have HR3 := Lib.hid (HB.out.keep HRb.out c3.mineNo ag)
      have hz2 : wr.heap.size ≤ w2.heap.size := c2.size
      have HB3 : Hid (Blk w3 w2.heap.size 36 #[.slice e1 L.pts.length f1, .slice e2 L.sigs.length f2]) := by rw [hw3]; exact Blk.new _ _ _
      have HM3 : Hid (lab m1 wr.heap.size 9 w2.heap.size = 9) := lab_ge hz2
      have HO3 : Hid (OutAt (fun g => lab m1 wr.heap.size 9 g = 9 ∧ (g ≠ w2.heap.size ∧ w.heap.size < g)) w3 (.agg #[.slice e1 L.pts.length f1, .slice e2 L.sigs.length f2]) (zeros L.pts.length) (nots L.sigs.length)) := by
        have h : OutAt (New wr.heap.size) w2 (.agg #[.slice e1 L.pts.length f1, .slice e2 L.sigs.length f2]) (zeros L.pts.length) (nots L.sigs.length) := ⟨_, _, rfl, by simpa [zeros] using HD.out, by simpa [nots] using HQ.out⟩
        rw [hw3]
        exact (h.mono fun g hg hl => ⟨lab_ge hg, by omega, by have h' : wr.heap.size ≤ g := hg; omega⟩).ch ((Ch.refl Noone _).alloc _) fun _ _ _ h => h
      have HC3 : Hid (Ch (Mine m) w w3) := (hch.trans c3).mineNo
      have HV3 : Hid (Sl (fun g => lab m1 wr.heap.size 9 g = 9 ∧ (g ≠ w2.heap.size ∧ w.heap.size < g)) w3 u5 cs.length (cs.flatMap fCmd)) := by
        have h := HOw.out.sl
        rw [← HCs.out.1] at h
        have h1 := (h.mono (B' := fun g => w.heap.size + 1 ≤ g ∧ g < wr.heap.size) fun g hg hl => ⟨hg, hl⟩).ch c3 (fun _ _ _ h => h)
        exact h1.mono fun g hg _ => ⟨(lab_lt hg.2).trans (M1w.out g (by omega)), by omega, by omega⟩
      have HW3 := Lib.hid hw3
      obtain ⟨ob, hob⟩ : ∃ ob, ob = w2.heap.size := ⟨_, rfl⟩
      have hobr : ob ≠ w.heap.size := by omega
      have HOz : Hid (w.heap.size ≤ ob) := by unfold Hid; omega
      obtain ⟨l0, l1, -, -, -, -, -⟩ := (HP1.out.pure c2).cells
      have hp2 := (HP1.out.pure c2).blk.lt
      clear hw3 c3 ag
      generalize lab m1 wr.heap.size 9 = m3 at *
      rw [← hob] at HB3 HM3 HO3 HV3
      have HOB := Lib.hid hob
      clear hob
      have ix0 : ∀ w, (Instr.index 71 (.agg #[.pointer (some ⟨a0, 0, none⟩), .pointer (some ⟨a1, 0, none⟩)]) (.int .i64 0)).run Tryz.prog w = .ok (.pointer (some ⟨a0, 0, none⟩)) w := fun _ => by kernel_rfl
      have ix1 : ∀ w, (Instr.index 71 (.agg #[.pointer (some ⟨a0, 0, none⟩), .pointer (some ⟨a1, 0, none⟩)]) (.int .i64 1)).run Tryz.prog w = .ok (.pointer (some ⟨a1, 0, none⟩)) w := fun _ => by kernel_rfl
      go_wp2_with fail
      clear l0 l1 hp2
      rw [← HW3.out, ← HOB.out]
      go_loopw [37] (fun i wq => ∃ (m4 : Nat → Nat) (ps4 : PS) (e1 e2 : Option Addr) (f1 f2 : Nat) (d : List Int) (q : List Bool), ((i = .int .i64 0 ∧ ps4 = ps ∧ Hid (d = zeros L.pts.length ∧ q = nots L.sigs.length)) ∨ (i = .int .i64 1 ∧ ∃ u0' d0 q0, ps4 = { ps with u0 := u0' } ∧ Hid (ps.u0.Cyc L ps.occ (ps.pts.map (·.lies)) (ps.re.con == 0) cs u0' d0 q0 ∧ d = (if (ps.re.con == 0) = true then d0 else zeros L.pts.length) ∧ q = (if (ps.re.con == 0) = true then q0 else nots L.sigs.length))) ∨
          (i = .int .i64 2 ∧ Hid (PS.Tells L es ps ps4 d q))) ∧ Hid (d.length = L.pts.length ∧ q.length = L.sigs.length) ∧ Hid (Sl (fun g => m4 g = 9 ∧ (g ≠ ob ∧ w.heap.size < g)) wq u5 cs.length (cs.flatMap fCmd)) ∧ Agree w m m4 ∧ PairP m4 wq p a0 a1 r k f s L ps4 ∧ Ch (Mine m) w wq ∧ Blk wq ob 36 #[.slice e1 L.pts.length f1, .slice e2 L.sigs.length f2] ∧ m4 ob = 9 ∧
        OutAt (fun g => m4 g = 9 ∧ (g ≠ ob ∧ w.heap.size < g)) wq (.agg #[.slice e1 L.pts.length f1, .slice e2 L.sigs.length f2]) d q ∧ Blk wq w.heap.size 36 #[.slice none 0 0, .slice none 0 0] ∧ m4 w.heap.size = 9) (fun i _ => (2 - intOf i).toNat)
      case atStart => exact ⟨m3, ps, e1, e2, f1, f2, _, _, .inl ⟨rfl, rfl, rfl, rfl⟩, ⟨List.length_replicate, List.length_replicate⟩, HV3.out, A3.out, HP3.out, HC3.out, HB3.out, HM3.out, HO3.out, HR3.out.1, HR3.out.2⟩
      case round =>
        obtain ⟨m4, ps4, e1, e2, f1, f2, d, q, hi, HLn, HV4, ha4, hp4, hc4, hb4, hm4, ho4, hr4, hmr4⟩ := hrel
        have HA4 := Lib.hid ha4
        have HP4 := Lib.hid hp4
        have HC4 := Lib.hid hc4
        have HB4 := Lib.hid hb4
        have HM4 := Lib.hid hm4
        have HO4 := Lib.hid ho4
        have HR4 := Lib.hid hr4
        have HMR4 := Lib.hid hmr4
        clear ha4 hp4 hc4 hb4 hm4 ho4 hr4 hmr4 HP1 A1 HP3 A3 HR3 HB3 HM3 HO3 HC3 HD HQ HB HOw
        rcases hi with ⟨rfl, hps, HDq⟩ | ⟨rfl, u0', d0, q0, hps, HDq⟩ | ⟨rfl, HDq⟩
        · rw [hps] at HP4
          clear hps
          have HCn := Lib.hid (relay_con _ _ _ HP4.out.relay)
          have HIn := Lib.hid (field_in _ _ _ _ _ HP4.out.field HO.out HPL.out)
          obtain ⟨-, -, l2, -, l4, -, -⟩ := HP4.out.cells
          cases hon : (ps.re.con == 0)
          all_goals
            have HON := Lib.hid hon
            go_wp2_with fail
            refine HCn.out.mono ?_
            rintro x w4 ⟨rfl, rfl⟩
            go_wp2_with fail
            refine HIn.out.mono ?_
            rintro x w5 ⟨⟨x1, x2, rfl, hin⟩, c5⟩
            have HP5 := Lib.hid (HP4.out.pure c5)
            have A5 : Hid (Agree w m (lab m4 w4.heap.size 9)) := HA4.out.trans (Agree.lab _ _ _) HC4.out.size
            have HC5 : Hid (Ch (Mine m) w w5) := HC4.out.then c5 fun _ _ h => h.elim
            have ag := Agree.lab w4 m4 9
            have HB5 := Lib.hid (HB4.out.keep HM4.out c5.mineNo ag)
            have HO5 := Lib.hid (HO4.out.keep c5.mineNo ag)
            have HR5 := Lib.hid (HR4.out.keep HMR4.out c5.mineNo ag)
            have HV5 : Hid (Sl (fun g => lab m4 w4.heap.size 9 g = 9 ∧ (g ≠ ob ∧ w.heap.size < g)) w5 u5 cs.length (cs.flatMap fCmd)) := ((HV4.out.mono (B' := fun g => (m4 g = 9 ∧ (g ≠ ob ∧ w.heap.size < g)) ∧ g < w4.heap.size) fun g hg hl => ⟨hg, hl⟩).ch0 c5).mono fun g hg _ => ⟨(ag g hg.2).trans hg.1.1, hg.1.2⟩
            have HIn5 : Hid (InR (fun g => lab m4 w4.heap.size 9 g = 9) w5 (.agg #[x1, x2]) ps.occ (ps.pts.map (·.lies))) := (show InR _ _ _ _ _ from hin).mono fun g (hg : _ ≤ g) _ => lab_ge hg
            clear ag hin
            generalize lab m4 w4.heap.size 9 = m5 at *
            obtain ⟨rs5, hu5⟩ := HP5.out.u0
            have hu5' := hu5.mono (O' := fun g => m5 g = 5 ∧ g < w5.heap.size) (fun g hg hl => ⟨hg, hl⟩)
            have HCy := Lib.hid (fun on => unit_cycle_any _ (fun g => m5 g = 9) (fun g => m5 g = 9 ∧ (g ≠ ob ∧ w.heap.size < g)) w5 _ L ps.u0 rs5 x1 x2 u5 on _ _ cs hu5' OK.out M0.out.c0 M0.out.l0 M0.out.l1 HIn5.out HP.out.ol (by rw [List.length_map]; exact HP.out.pl) (fun x hx => by obtain ⟨y, hy, rfl⟩ := List.mem_map.1 hx; exact (HP.out.pk y hy).2) (fun g (hg : m5 g = 9) h => by have h1 := h.1; omega) HV5.out (fun g hg h => by have h1 := h.1; have h2 := hg.1; omega) HCl.out)
            clear hu5 hu5'
            go_wp2_with fail
            refine (HCy.out _).mono ?_
            rintro x w6 ⟨vo, dn, qn, un, rn, rfl, hout, hcy, hu6, c6⟩
            have HCY := Lib.hid hcy
            have hln := hcy.rng.1
            have hlq := hcy.rng.2.1
            have HU6 := Lib.hid hu6
            have c6' : Ch (fun g => m5 g = 5) w5 w6 := c6.mono fun g _ h => h.1
            obtain ⟨z1, z2, rfl, hd, hq⟩ := hout
            rw [hln] at hd
            rw [hlq] at hq
            have HLN := Lib.hid (And.intro hln hlq)
            clear hln hlq hcy
            have HD6 := Lib.hid hd
            have HQ6 := Lib.hid hq
            obtain ⟨e3, f3, rfl, -, -, -, -⟩ := hd.sl
            obtain ⟨e4, f4, rfl, -, -, -, -⟩ := hq.sl
            have HP6 := Lib.hid (HP5.out.stepU0o c6' ⟨_, HU6.out⟩)
            have ag := Agree.lab w5 m5 9
            have A6 : Hid (Agree w m (lab m5 w5.heap.size 9)) := A5.out.trans ag HC5.out.size
            have c6m : Ch (Mine m5) w5 w6 := c6'.mine (by decide)
            have HC6 : Hid (Ch (Mine m) w w6) := HC5.out.next A5.out c6m
            have HB6 := Lib.hid (HB5.out.1.keep HB5.out.2 c6m ag)
            have HO6 := Lib.hid (HO5.out.keep c6m ag)
            have HR6 := Lib.hid (HR5.out.1.keep HR5.out.2 c6m ag)
            have HV6 : Hid (Sl (fun g => lab m5 w5.heap.size 9 g = 9 ∧ (g ≠ ob ∧ w.heap.size < g)) w6 u5 cs.length (cs.flatMap fCmd)) := ((HV5.out.mono (B' := fun g => (m5 g = 9 ∧ (g ≠ ob ∧ w.heap.size < g)) ∧ g < w5.heap.size) fun g hg hl => ⟨hg, hl⟩).ch c6m (fun g hg _ h => by have h1 : m5 g ≤ 6 := h; have h2 := hg.1.1; omega)).mono fun g hg _ => ⟨(ag g hg.2).trans hg.1.1, hg.1.2⟩
            have hb6 := HB6.out.1
            have t0 : w6.cell? ⟨ob, 0, none⟩ = some (.slice e1 L.pts.length f1) := hb6.cell 0
            have t1 : w6.cell? ⟨ob, 1, none⟩ = some (.slice e2 L.sigs.length f2) := hb6.cell 1
            have qf0 := hb6.free 0
            have qf1 := hb6.free 1
            have hob6 := hb6.lt
            have hob5 := HB5.out.1.lt
            have hrb5 := HR5.out.1.lt
            have HN6 : Hid (OutAt (fun g => lab m5 w5.heap.size 9 g = 9 ∧ (g ≠ ob ∧ w.heap.size < g)) w6 (.agg #[.slice e3 L.pts.length f3, .slice e4 L.sigs.length f4]) dn qn) := by
              have h : OutAt (New w5.heap.size) w6 (.agg #[.slice e3 L.pts.length f3, .slice e4 L.sigs.length f4]) dn qn := ⟨_, _, rfl, by rw [HLN.out.1]; exact hd, by rw [HLN.out.2]; exact hq⟩
              exact h.mono fun g hg hl => by have h' : w5.heap.size ≤ g := hg; exact ⟨lab_ge hg, by omega, by omega⟩
            clear hd hq hu6 hb6 ag hob5 hrb5
            generalize lab m5 w5.heap.size 9 = m6 at *
            go_wp2_with fail
            go_roundw
          · have cA : Ch Noone w6 (w6.alloc (.cells #[.slice e3 L.pts.length f3, .slice e4 L.sigs.length f4] 36)) := (Ch.refl _ _).alloc _
            have ag := Agree.lab w6 m6 9
            have hB := HB6.out.1.keep HB6.out.2 cA.mineNo ag
            have hR := HR6.out.1.keep HR6.out.2 cA.mineNo ag
            exact ⟨_, _, e1, e2, f1, f2, d, q, .inr (.inl ⟨rfl, un, dn, qn, rfl, HON.out ▸ HCY.out, HDq.out.1.trans (if_neg (by decide)).symm, HDq.out.2.trans (if_neg (by decide)).symm⟩), HLn.out, ((HV6.out.mono (B' := fun g => (m6 g = 9 ∧ (g ≠ ob ∧ w.heap.size < g)) ∧ g < w6.heap.size) fun g hg hl => ⟨hg, hl⟩).ch0 cA).mono (fun g hg _ => ⟨(ag g hg.2).trans hg.1.1, hg.1.2⟩), A6.out.trans ag HC6.out.size, HP6.out.pure cA, HC6.out.then cA (fun _ _ h => h.elim), hB.1, hB.2, HO6.out.keep cA.mineNo ag, hR.1, hR.2⟩
          · simp [intOf]
          · have cT : Ch (fun g => g = ob) w6 (((w6.setCell ⟨ob, 0, none⟩ (.slice e3 L.pts.length f3)).setCell ⟨ob, 1, none⟩ (.slice e4 L.sigs.length f4)).alloc (.cells #[.slice e3 L.pts.length f3, .slice e4 L.sigs.length f4] 36)) := (((Ch.refl _ _).set1 _ _).set1 _ _).alloc _
            have hB0 := (HB6.out.1.set 0 (.slice e3 L.pts.length f3)).set 1 (.slice e4 L.sigs.length f4)
            have hB1 : Blk ((w6.setCell ⟨ob, 0, none⟩ (.slice e3 L.pts.length f3)).setCell ⟨ob, 1, none⟩ (.slice e4 L.sigs.length f4)) ob 36 #[.slice e3 L.pts.length f3, .slice e4 L.sigs.length f4] := by simpa using hB0
            have hB := hB1.alloc (.cells #[.slice e3 L.pts.length f3, .slice e4 L.sigs.length f4] 36)
            have ag := Agree.lab w6 m6 9
            have hob9 := HB6.out.2
            have hrb9 := HR6.out.2
            have hz : w.heap.size ≤ ob := HOz.out
            refine ⟨_, _, e3, e4, f3, f4, dn, qn, .inr (.inl ⟨rfl, un, dn, qn, rfl, HON.out ▸ HCY.out, by first | rfl | (rw [HON.out]; rfl) | (rw [if_pos (by decide)])| (rw [if_pos HON.out]), by first | rfl | (rw [HON.out]; rfl) | (rw [if_pos (by decide)]) | (rw [if_pos HON.out])⟩), HLN.out, ((HV6.out.mono (B' := fun g => (m6 g = 9 ∧ (g ≠ ob ∧ w.heap.size < g)) ∧ g < w6.heap.size) fun g hg hl => ⟨hg, hl⟩).ch cT (fun g hg _ e => hg.1.2.1 e)).mono (fun g hg _ => ⟨(ag g hg.2).trans hg.1.1, hg.1.2⟩), A6.out.trans ag HC6.out.size, HP6.out.pure9 (cT.mono fun g _ e => by rw [e]; exact hob9), HC6.out.then cT (fun i hi e => by omega), hB, (ag ob hob6).trans hob9, ?_, cT.blk HR6.out.1 hobr.symm, (ag _ HR6.out.1.lt).trans hrb9⟩
            exact ((HN6.out.mono (O' := fun g => (m6 g = 9 ∧ (g ≠ ob ∧ w.heap.size < g)) ∧ g < w6.heap.size) fun g hg hl => ⟨hg, hl⟩).ch cT fun g hg _ e => hg.1.2.1 e).mono fun g hg _ => ⟨(ag g hg.2).trans hg.1.1, hg.1.2⟩
          · simp [intOf]
        · rw [hps] at HP4
          clear hps
          have HCn := Lib.hid (relay_con _ _ _ HP4.out.relay)
          have HIn := Lib.hid (field_in _ _ _ _ _ HP4.out.field HO.out HPL.out)
          obtain ⟨-, -, l2, -, l4, -, -⟩ := HP4.out.cells
          cases hon : (ps.re.con == 1)
          all_goals
            have HON := Lib.hid hon
            go_wp2_with fail
            refine HCn.out.mono ?_
            rintro x w4 ⟨rfl, rfl⟩
            go_wp2_with fail
            refine HIn.out.mono ?_
            rintro x w5 ⟨⟨x1, x2, rfl, hin⟩, c5⟩
            have HP5 := Lib.hid (HP4.out.pure c5)
            have A5 : Hid (Agree w m (lab m4 w4.heap.size 9)) := HA4.out.trans (Agree.lab _ _ _) HC4.out.size
            have HC5 : Hid (Ch (Mine m) w w5) := HC4.out.then c5 fun _ _ h => h.elim
            have ag := Agree.lab w4 m4 9
            have HB5 := Lib.hid (HB4.out.keep HM4.out c5.mineNo ag)
            have HO5 := Lib.hid (HO4.out.keep c5.mineNo ag)
            have HR5 := Lib.hid (HR4.out.keep HMR4.out c5.mineNo ag)
            have HV5 : Hid (Sl (fun g => lab m4 w4.heap.size 9 g = 9 ∧ (g ≠ ob ∧ w.heap.size < g)) w5 u5 cs.length (cs.flatMap fCmd)) := ((HV4.out.mono (B' := fun g => (m4 g = 9 ∧ (g ≠ ob ∧ w.heap.size < g)) ∧ g < w4.heap.size) fun g hg hl => ⟨hg, hl⟩).ch0 c5).mono fun g hg _ => ⟨(ag g hg.2).trans hg.1.1, hg.1.2⟩
            have HIn5 : Hid (InR (fun g => lab m4 w4.heap.size 9 g = 9) w5 (.agg #[x1, x2]) ps.occ (ps.pts.map (·.lies))) := (show InR _ _ _ _ _ from hin).mono fun g (hg : _ ≤ g) _ => lab_ge hg
            clear ag hin
            generalize lab m4 w4.heap.size 9 = m5 at *
            obtain ⟨rs5, hu5⟩ := HP5.out.u1
            have hu5' := hu5.mono (O' := fun g => m5 g = 6 ∧ g < w5.heap.size) (fun g hg hl => ⟨hg, hl⟩)
            have HCy := Lib.hid (fun on => unit_cycle_any _ (fun g => m5 g = 9) (fun g => m5 g = 9 ∧ (g ≠ ob ∧ w.heap.size < g)) w5 _ L ps.u1 rs5 x1 x2 u5 on _ _ cs hu5' OK.out M1.out.c0 M1.out.l0 M1.out.l1 HIn5.out HP.out.ol (by rw [List.length_map]; exact HP.out.pl) (fun x hx => by obtain ⟨y, hy, rfl⟩ := List.mem_map.1 hx; exact (HP.out.pk y hy).2) (fun g (hg : m5 g = 9) h => by have h1 := h.1; omega) HV5.out (fun g hg h => by have h1 := h.1; have h2 := hg.1; omega) HCl.out)
            clear hu5 hu5'
            go_wp2_with fail
            refine (HCy.out _).mono ?_
            rintro x w6 ⟨vo, dn, qn, un, rn, rfl, hout, hcy, hu6, c6⟩
            have HCY := Lib.hid hcy
            have hln := hcy.rng.1
            have hlq := hcy.rng.2.1
            have HU6 := Lib.hid hu6
            have c6' : Ch (fun g => m5 g = 6) w5 w6 := c6.mono fun g _ h => h.1
            obtain ⟨z1, z2, rfl, hd, hq⟩ := hout
            rw [hln] at hd
            rw [hlq] at hq
            have HLN := Lib.hid (And.intro hln hlq)
            clear hln hlq hcy
            have HD6 := Lib.hid hd
            have HQ6 := Lib.hid hq
            obtain ⟨e3, f3, rfl, -, -, -, -⟩ := hd.sl
            obtain ⟨e4, f4, rfl, -, -, -, -⟩ := hq.sl
            have HP6 := Lib.hid (HP5.out.stepU1o c6' ⟨_, HU6.out⟩)
            have ag := Agree.lab w5 m5 9
            have A6 : Hid (Agree w m (lab m5 w5.heap.size 9)) := A5.out.trans ag HC5.out.size
            have c6m : Ch (Mine m5) w5 w6 := c6'.mine (by decide)
            have HC6 : Hid (Ch (Mine m) w w6) := HC5.out.next A5.out c6m
            have HB6 := Lib.hid (HB5.out.1.keep HB5.out.2 c6m ag)
            have HO6 := Lib.hid (HO5.out.keep c6m ag)
            have HR6 := Lib.hid (HR5.out.1.keep HR5.out.2 c6m ag)
            have HV6 : Hid (Sl (fun g => lab m5 w5.heap.size 9 g = 9 ∧ (g ≠ ob ∧ w.heap.size < g)) w6 u5 cs.length (cs.flatMap fCmd)) := ((HV5.out.mono (B' := fun g => (m5 g = 9 ∧ (g ≠ ob ∧ w.heap.size < g)) ∧ g < w5.heap.size) fun g hg hl => ⟨hg, hl⟩).ch c6m (fun g hg _ h => by have h1 : m5 g ≤ 6 := h; have h2 := hg.1.1; omega)).mono fun g hg _ => ⟨(ag g hg.2).trans hg.1.1, hg.1.2⟩
            have hb6 := HB6.out.1
            have t0 : w6.cell? ⟨ob, 0, none⟩ = some (.slice e1 L.pts.length f1) := hb6.cell 0
            have t1 : w6.cell? ⟨ob, 1, none⟩ = some (.slice e2 L.sigs.length f2) := hb6.cell 1
            have qf0 := hb6.free 0
            have qf1 := hb6.free 1
            have hob6 := hb6.lt
            have hob5 := HB5.out.1.lt
            have hrb5 := HR5.out.1.lt
            have HN6 : Hid (OutAt (fun g => lab m5 w5.heap.size 9 g = 9 ∧ (g ≠ ob ∧ w.heap.size < g)) w6 (.agg #[.slice e3 L.pts.length f3, .slice e4 L.sigs.length f4]) dn qn) := by
              have h : OutAt (New w5.heap.size) w6 (.agg #[.slice e3 L.pts.length f3, .slice e4 L.sigs.length f4]) dn qn := ⟨_, _, rfl, by rw [HLN.out.1]; exact hd, by rw [HLN.out.2]; exact hq⟩
              exact h.mono fun g hg hl => by have h' : w5.heap.size ≤ g := hg; exact ⟨lab_ge hg, by omega, by omega⟩
            clear hd hq hu6 hb6 ag hob5 hrb5
            generalize lab m5 w5.heap.size 9 = m6 at *
            go_wp2_with fail
            go_roundw
          · have cA : Ch Noone w6 (w6.alloc (.cells #[.slice e3 L.pts.length f3, .slice e4 L.sigs.length f4] 36)) := (Ch.refl _ _).alloc _
            have ag := Agree.lab w6 m6 9
            have hB := HB6.out.1.keep HB6.out.2 cA.mineNo ag
            have hR := HR6.out.1.keep HR6.out.2 cA.mineNo ag
            exact ⟨_, _, e1, e2, f1, f2, d, q, .inr (.inr ⟨rfl, u0', d0, q0, un, dn, qn, HCd.out ▸ HDq.out.1, HCd.out ▸ HON.out ▸ HCY.out, rfl, by first | exact HDq.out.2.1 | (rw [HON.out]; exact HDq.out.2.1) | (rw [if_neg (by rw [HON.out]; decide)]; exact HDq.out.2.1), by first | exact HDq.out.2.2 | (rw [HON.out]; exact HDq.out.2.2) | (rw [if_neg (by rw [HON.out]; decide)]; exact HDq.out.2.2)⟩), HLn.out, ((HV6.out.mono (B' := fun g => (m6 g = 9 ∧ (g ≠ ob ∧ w.heap.size < g)) ∧ g < w6.heap.size) fun g hg hl => ⟨hg, hl⟩).ch0 cA).mono (fun g hg _ => ⟨(ag g hg.2).trans hg.1.1, hg.1.2⟩), A6.out.trans ag HC6.out.size, HP6.out.pure cA, HC6.out.then cA (fun _ _ h => h.elim), hB.1, hB.2, HO6.out.keep cA.mineNo ag, hR.1, hR.2⟩
          · simp [intOf]
          · have cT : Ch (fun g => g = ob) w6 (((w6.setCell ⟨ob, 0, none⟩ (.slice e3 L.pts.length f3)).setCell ⟨ob, 1, none⟩ (.slice e4 L.sigs.length f4)).alloc (.cells #[.slice e3 L.pts.length f3, .slice e4 L.sigs.length f4] 36)) := (((Ch.refl _ _).set1 _ _).set1 _ _).alloc _
            have hB0 := (HB6.out.1.set 0 (.slice e3 L.pts.length f3)).set 1 (.slice e4 L.sigs.length f4)
            have hB1 : Blk ((w6.setCell ⟨ob, 0, none⟩ (.slice e3 L.pts.length f3)).setCell ⟨ob, 1, none⟩ (.slice e4 L.sigs.length f4)) ob 36 #[.slice e3 L.pts.length f3, .slice e4 L.sigs.length f4] := by simpa using hB0
            have hB := hB1.alloc (.cells #[.slice e3 L.pts.length f3, .slice e4 L.sigs.length f4] 36)
            have ag := Agree.lab w6 m6 9
            have hob9 := HB6.out.2
            have hrb9 := HR6.out.2
            have hz : w.heap.size ≤ ob := HOz.out
            refine ⟨_, _, e3, e4, f3, f4, dn, qn, .inr (.inr ⟨rfl, u0', d0, q0, un, dn, qn, HCd.out ▸ HDq.out.1, HCd.out ▸ HON.out ▸ HCY.out, rfl, by first | rfl | (rw [HON.out]; rfl) | (rw [if_pos (by decide)])| (rw [if_pos HON.out]), by first | rfl | (rw [HON.out]; rfl) | (rw [if_pos (by decide)]) | (rw [if_pos HON.out])⟩), HLN.out, ((HV6.out.mono (B' := fun g => (m6 g = 9 ∧ (g ≠ ob ∧ w.heap.size < g)) ∧ g < w6.heap.size) fun g hg hl => ⟨hg, hl⟩).ch cT (fun g hg _ e => hg.1.2.1 e)).mono (fun g hg _ => ⟨(ag g hg.2).trans hg.1.1, hg.1.2⟩), A6.out.trans ag HC6.out.size, HP6.out.pure9 (cT.mono fun g _ e => by rw [e]; exact hob9), HC6.out.then cT (fun i hi e => by omega), hB, (ag ob hob6).trans hob9, ?_, cT.blk HR6.out.1 hobr.symm, (ag _ HR6.out.1.lt).trans hrb9⟩
            exact ((HN6.out.mono (O' := fun g => (m6 g = 9 ∧ (g ≠ ob ∧ w.heap.size < g)) ∧ g < w6.heap.size) fun g hg hl => ⟨hg, hl⟩).ch cT fun g hg _ e => hg.1.2.1 e).mono fun g hg _ => ⟨(ag g hg.2).trans hg.1.1, hg.1.2⟩
          · simp [intOf]
        · have hb := HB4.out
          have hr := HR4.out
          have t0 : wr.cell? ⟨ob, 0, none⟩ = some (.slice e1 L.pts.length f1) := hb.cell 0
          have t1 : wr.cell? ⟨ob, 1, none⟩ = some (.slice e2 L.sigs.length f2) := hb.cell 1
          have r0 : wr.cell? ⟨w.heap.size, 0, none⟩ = some (.slice none 0 0) := hr.cell 0
          have r1 : wr.cell? ⟨w.heap.size, 1, none⟩ = some (.slice none 0 0) := hr.cell 1
          have g0 := hr.free 0
          have g1 := hr.free 1
          clear hb hr
          go_wp2_with fail
          (try simp only [Exit.inBlock, Exit.then])
          have cT : Ch (fun g => g = w.heap.size) wr ((wr.setCell ⟨w.heap.size, 0, none⟩ (.slice e1 L.pts.length f1)).setCell ⟨w.heap.size, 1, none⟩ (.slice e2 L.sigs.length f2)) := ((Ch.refl _ _).set1 _ _).set1 _ _
          have hx0 := (HR4.out.set 0 (.slice e1 L.pts.length f1)).set 1 (.slice e2 L.sigs.length f2)
          have hx2 : Blk ((wr.setCell ⟨w.heap.size, 0, none⟩ (.slice e1 L.pts.length f1)).setCell ⟨w.heap.size, 1, none⟩ (.slice e2 L.sigs.length f2)) w.heap.size 36 #[.slice e1 L.pts.length f1, .slice e2 L.sigs.length f2] := by simpa using hx0
          refine bodyPost_ret (results_cell_row (P := Tryz.prog) rfl _ _ w.heap.size _ _ _ _ rfl hx2 Tryz.underlying36 rfl (by kernel_rfl)) rfl ?_
          have ag := Agree.lab wr m4 9
          refine ⟨_, _, _, _, d, q, rfl, ?_, HDq.out, HA4.out.trans ag HC4.out.size, HP4.out.pure9 (cT.mono fun g _ e => by rw [e]; exact HMR4.out), HC4.out.then cT fun i hi e => by omega⟩
          exact ((HO4.out.mono (O' := fun g => (m4 g = 9 ∧ (g ≠ ob ∧ w.heap.size < g)) ∧ g < wr.heap.size) fun g hg hl => ⟨hg, hl⟩).ch cT fun g hg _ e => by have := hg.1.2.2; omega).mono fun g hg _ => ⟨(ag g hg.2).trans hg.1.1, Nat.le_of_lt hg.1.2.2⟩
end Go.Proofs.YtkplgggdidhnoaaGreatDoor

namespace Go.Proofs.YtkplgggdidhnoaaGreatDoor
open Go.ChangeShapes Go.WideShapes Go.ChangeAt Go.RowKit
set_option linter.unusedVariables false

/-- What ends a cycle on the link. -/
def PS.Ends (ps ps' : PS) : Prop := ∃ y, ps' = { ps with ln := y } ∧ y.s0 = [] ∧ y.s1 = [] ∧ (ps.ln.s0 = [] → ps.u0.mode ≠ 3 → y.c1 = []) ∧ (ps.ln.s1 = [] → ps.u1.mode ≠ 3 → y.c0 = [])

set_option maxRecDepth 100000 in
set_option maxHeartbeats 8000000 in
theorem pair_ends {m : Nat → Nat} {w : World} {p a0 a1 r k f s : Nat} {L : Lay} {ps : PS} (v : Value) (es : List Ev) (hv : Sl (fun g => m g = 9) w v es.length (es.flatMap fEv)) (hl : es.length ≤ 1000) (h : PairP m w p a0 a1 r k f s L ps) (ok : LayOk L) :
    Calls Tryz.prog 36 #[.pointer (some ⟨p, 0, none⟩), v] w fun x w' => x = .returned (.tuple #[]) ∧ PStep m w p a0 a1 r k f s L w' (PS.Ends ps) := by
  have HV := Lib.hid hv
  have HP := Lib.hid h
  have OK := Lib.hid ok
  obtain ⟨av, cv, rfl, -, -, -, -⟩ := hv
  clear h ok
  go_enter Tryz.func36, Tryz.ntmps36
  go_wp2_with fail
  go_loopw [4, 5, 12] (fun q1 q2 i wr => ∃ (j : Nat) (lo : Bool) (sp : Int), j ≤ es.length ∧ i = .int .i64 j ∧ q1 = .bool lo ∧ q2 = .int .i64 sp ∧ Ch Noone w wr) (fun _ _ i _ => (es.length - intOf i).toNat)
  case atStart => exact ⟨0, false, -1, by omega, rfl, rfl, rfl, Ch.refl _ _⟩
  case round =>
    obtain ⟨j, lo, sp, hj, rfl, rfl, rfl, hch⟩ := hrel
    by_cases hjl : j < es.length
    · obtain ⟨b, off, rfl, hb9, hbw, hat⟩ := HV.out.at (f := fEv) (C := 5) (fun _ => rfl) (by omega) hjl
      have y0 : wr.cell? ⟨b, off + j * 5, none⟩ = some (.int .i64 es[j].kind) := (hch.rd hbw _).trans (hat 0 (by omega))
      have y1 : wr.cell? ⟨b, off + j * 5 + 1, none⟩ = some (.int .i64 es[j].unit) := (hch.rd hbw _).trans (hat 1 (by omega))
      have y2 : wr.cell? ⟨b, off + j * 5 + 2, none⟩ = some (.int .i64 es[j].n) := (hch.rd hbw _).trans (hat 2 (by omega))
      have y3 : wr.cell? ⟨b, off + j * 5 + 3, none⟩ = some (.int .i64 es[j].ck) := (hch.rd hbw _).trans (hat 3 (by omega))
      have y4 : wr.cell? ⟨b, off + j * 5 + 4, none⟩ = some (.int .i64 es[j].cr) := (hch.rd hbw _).trans (hat 4 (by omega))
      have hj0 : (0 : Int) ≤ j := by omega
      have hj1 : (j : Int) < es.length := by omega
      clear hat
      generalize es[j] = e at *
      obtain ⟨ek, eu, en, ec, er⟩ := e
      dsimp only at *
      cases lo
      all_goals
        go_wp2_with fail
        all_goals
          go_roundw
          case rel => exact ⟨j + 1, _, _, by omega, by go_num, rfl, rfl, hch.alloc _⟩
          case measure => simp [intOf]; omega
    · have HP1 := Lib.hid (HP.out.pure hch)
      have A1 : Hid (Agree w m (lab m w.heap.size 9)) := Agree.lab _ _ _
      generalize lab m w.heap.size 9 = m1 at *
      have C1 : Hid (Ch (Mine m) w wr) := hch.mineNo
      obtain ⟨l0, l1, -, -, -, -, -⟩ := HP1.out.cells
      have ix0 : ∀ w, (Instr.index 71 (.agg #[.pointer (some ⟨a0, 0, none⟩), .pointer (some ⟨a1, 0, none⟩)]) (.int .i64 0)).run Tryz.prog w = .ok (.pointer (some ⟨a0, 0, none⟩)) w := fun _ => by kernel_rfl
      have ix1 : ∀ w, (Instr.index 71 (.agg #[.pointer (some ⟨a0, 0, none⟩), .pointer (some ⟨a1, 0, none⟩)]) (.int .i64 1)).run Tryz.prog w = .ok (.pointer (some ⟨a1, 0, none⟩)) w := fun _ => by kernel_rfl
      go_wp2_with fail
      clear l0 l1
      go_loopw [41] (fun i wq => ∃ (m4 : Nat → Nat) (ps4 : PS), ((i = .int .i64 0 ∧ ps4 = ps) ∨ (i = .int .i64 1 ∧ ∃ x1, ps4 = { ps with ln := x1 } ∧ x1.s1 = ps.ln.s1 ∧ (ps.u0.mode ≠ 3 → x1.s0 = ps.ln.s0)) ∨ (i = .int .i64 2 ∧ ∃ x2, ps4 = { ps with ln := x2 } ∧ (ps.u0.mode ≠ 3 → x2.s0 = ps.ln.s0) ∧ (ps.u1.mode ≠ 3 → x2.s1 = ps.ln.s1))) ∧ Hid (Agree w m m4) ∧ PairP m4 wq p a0 a1 r k f s L ps4 ∧ Hid (Ch (Mine m) w wq)) (fun i _ => (2 - intOf i).toNat)
      case atStart => exact ⟨m1, ps, .inl ⟨rfl, rfl⟩, A1.out, HP1.out, C1.out⟩
      case round =>
        clear HP1 A1 C1
        obtain ⟨m4, ps4, hi, HA4, hp, HC4⟩ := hrel
        rcases hi with ⟨rfl, hps⟩ | ⟨rfl, hps⟩ | ⟨rfl, hps⟩
        · rw [hps] at hp
          clear hps
          have HP4 := Lib.hid hp
          obtain ⟨rs0, hu0⟩ := hp.u0
          have HSn := Lib.hid (unit_send_any _ wr.drew _ L ps.u0 rs0 (hu0.ch ((Ch.refl Noone wr).drew) (fun _ _ _ h => h)) OK.out)
          have l3 : wr.cell? ⟨p, 3, none⟩ = some (.pointer (some ⟨k, 0, none⟩)) := hp.cells.2.2.2.1
          have HKp : Hid (∀ W', Ch (fun g => m4 g = 2) wr W' → W'.cell? ⟨p, 3, none⟩ = some (.pointer (some ⟨k, 0, none⟩))) := fun W' c => (c.blk HP4.out.blk (by rw [HP4.out.mp]; decide)).cell 3
          clear hp hu0
          go_wp2_with fail
          go_region_held3 (fun W' => W'.cell? ⟨p, 3, none⟩ = some (.pointer (some ⟨k, 0, none⟩)))
            (first | exact HKp.out _ ((Ch.refl _ _).drew) | exact HKp.out _ CL.out | exact HKp.out _ (CS.out.mono fun _ _ h => h.elim))
            (first
              | (go_at_call 73; refine HSn.out.mono ?_; rintro e w2 ⟨v, n, vs, rfl, hn, hsb, hmz, hc⟩; have CS : Hid (Ch Noone wr w2) := (Ch.refl _ _).drew.trans hc; have HN := Lib.hid hn; have HSB := Lib.hid hsb; have HM := Lib.hid hmz; clear hn hsb hmz hc)
              | (go_at_call 72; refine (link_send_any _ _ _ k _ 0 (.inl rfl) v n vs (HP4.out.link.ch CS.out (fun _ _ _ h => h)) HSB.out HN.out).mono ?_; rintro e w3 ⟨rfl, ⟨x', hx, hxr⟩, hc⟩; have CL : Hid (Ch (fun g => m4 g = 2) wr w3) := (CS.out.mono fun _ _ h => h.elim).trans hc; have HX' := Lib.hid hx; have HXR := Lib.hid hxr; clear hx hxr hc))
          all_goals
            go_wp2_with fail
            go_roundw
            case rel =>
              have hp3 := HP4.out.stepLink CL.out (HX'.out.mono fun g hg _ => Gr.le CS.out.size g hg)
              have r1 : x'.s1 = ps.ln.s1 := by
                rcases HXR.out with h | ⟨_, bs, h⟩
                · rw [h]
                · rw [h]; rfl
              have r0 : ps.u0.mode ≠ 3 → x'.s0 = ps.ln.s0 := fun h3 => by
                rcases HXR.out with h | ⟨h, _⟩
                · rw [h]
                · exact absurd (HM.out h3) h
              exact ⟨_, _, .inr (.inl ⟨rfl, x', rfl, r1, r0⟩), HA4.out.trans (Agree.lab wr m4 2) HC4.out.size, hp3, HC4.out.next HA4.out (CL.out.mine (by decide))⟩
            case measure => simp [intOf]
        · obtain ⟨x1, hps, hx1, hx0⟩ := hps
          rw [hps] at hp
          clear hps
          have HX := Lib.hid (And.intro hx1 hx0)
          clear hx1 hx0
          have HP4 := Lib.hid hp
          obtain ⟨rs0, hu0⟩ := hp.u1
          have HSn := Lib.hid (unit_send_any _ wr.drew _ L ps.u1 rs0 (hu0.ch ((Ch.refl Noone wr).drew) (fun _ _ _ h => h)) OK.out)
          have l3 : wr.cell? ⟨p, 3, none⟩ = some (.pointer (some ⟨k, 0, none⟩)) := hp.cells.2.2.2.1
          have HKp : Hid (∀ W', Ch (fun g => m4 g = 2) wr W' → W'.cell? ⟨p, 3, none⟩ = some (.pointer (some ⟨k, 0, none⟩))) := fun W' c => (c.blk HP4.out.blk (by rw [HP4.out.mp]; decide)).cell 3
          clear hp hu0
          go_wp2_with fail
          go_region_held3 (fun W' => W'.cell? ⟨p, 3, none⟩ = some (.pointer (some ⟨k, 0, none⟩)))
            (first | exact HKp.out _ ((Ch.refl _ _).drew) | exact HKp.out _ CL.out | exact HKp.out _ (CS.out.mono fun _ _ h => h.elim))
            (first
              | (go_at_call 73; refine HSn.out.mono ?_; rintro e w2 ⟨v, n, vs, rfl, hn, hsb, hmz, hc⟩; have CS : Hid (Ch Noone wr w2) := (Ch.refl _ _).drew.trans hc; have HN := Lib.hid hn; have HSB := Lib.hid hsb; have HM := Lib.hid hmz; clear hn hsb hmz hc)
              | (go_at_call 72; refine (link_send_any _ _ _ k _ 1 (.inr rfl) v n vs (HP4.out.link.ch CS.out (fun _ _ _ h => h)) HSB.out HN.out).mono ?_; rintro e w3 ⟨rfl, ⟨x', hx, hxr⟩, hc⟩; have CL : Hid (Ch (fun g => m4 g = 2) wr w3) := (CS.out.mono fun _ _ h => h.elim).trans hc; have HX' := Lib.hid hx; have HXR := Lib.hid hxr; clear hx hxr hc))
          all_goals
            go_wp2_with fail
            go_roundw
            case rel =>
              have hp3 := HP4.out.stepLink CL.out (HX'.out.mono fun g hg _ => Gr.le CS.out.size g hg)
              have r0 : ps.u0.mode ≠ 3 → x'.s0 = ps.ln.s0 := fun h3 => by
                rcases HXR.out with h | ⟨_, bs, h⟩
                · rw [h]; exact HX.out.2 h3
                · rw [h]; exact HX.out.2 h3
              have r1 : ps.u1.mode ≠ 3 → x'.s1 = ps.ln.s1 := fun h3 => by
                rcases HXR.out with h | ⟨h, _⟩
                · rw [h]; exact HX.out.1
                · exact absurd (HM.out h3) h
              exact ⟨_, _, .inr (.inr ⟨rfl, x', rfl, r0, r1⟩), HA4.out.trans (Agree.lab wr m4 2) HC4.out.size, hp3, HC4.out.next HA4.out (CL.out.mine (by decide))⟩
            case measure => simp [intOf]
        · obtain ⟨x2, hps, hx0, hx1⟩ := hps
          rw [hps] at hp
          clear hps
          have HX := Lib.hid (And.intro hx0 hx1)
          have HP4 := Lib.hid hp
          have l3 : wr.cell? ⟨p, 3, none⟩ = some (.pointer (some ⟨k, 0, none⟩)) := hp.cells.2.2.2.1
          have HT := Lib.hid (link_turn_any _ wr k lo sp x2 hp.link)
          clear hp hx0 hx1
          go_wp2_with fail
          refine HT.out.mono ?_
          rintro x w3 ⟨rfl, ⟨y, h3, z0, z1, z2, z3⟩, c3⟩
          have H3 := Lib.hid h3
          have HZ := Lib.hid (And.intro z0 (And.intro z1 (And.intro z2 z3)))
          clear h3 z0 z1 z2 z3
          go_wp2_with fail
          go_end0
          have h4 := HP4.out.stepLink c3 (H3.out.mono fun g hg _ => .inl hg)
          obtain ⟨z0, z1, z2, z3⟩ := HZ.out
          exact ⟨rfl, _, _, HA4.out.trans (Agree.lab wr m4 2) HC4.out.size, h4, ⟨y, rfl, z0, z1, fun e h3 => z2 ((HX.out.1 h3).trans e), fun e h3 => z3 ((HX.out.2 h3).trans e)⟩, HC4.out.next HA4.out (c3.mine (by decide))⟩
end Go.Proofs.YtkplgggdidhnoaaGreatDoor
