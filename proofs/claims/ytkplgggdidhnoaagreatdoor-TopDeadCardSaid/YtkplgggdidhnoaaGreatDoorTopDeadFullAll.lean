/-
  The law TopDead: what it answers is true. Conditions: no list, no name is longer than 281474976710656; the tables of unicode/utf8 are laid. TopDead holds for every input, and its card. Conditions: what the card's row itself says (the tables of unicode/utf8 as the program's text lays them).
-/
import Derived.Test.YtkplgggdidhnoaaGreatDoorM21
import Derived.Test.YtkplgggdidhnoaaGreatDoorM22
namespace Go.Proofs.YtkplgggdidhnoaaGreatDoor
open Go.ChangeShapes Go.WideShapes Go.ChangeAt Go.RowKit
set_option linter.unusedVariables false

def crashes : List Ev := [⟨1, 0, 0, 0, 0⟩, ⟨1, 1, 0, 0, 0⟩]
theorem crash_off {L : Lay} {ps2 : PS} (h : PS.Fold PS.Hap crashes (PS.new L).next ps2) : ps2.u0.Off ∧ ps2.u1.Off := by
  obtain ⟨b, h1, c, h2, h3⟩ := h
  have e0 : ps2.u0 = US.new.crash := by rw [fold_nil h3, h2.1]; show b.u0 = _; rw [h1.1]; rfl
  have e1 : ps2.u1 = US.new.crash := by rw [fold_nil h3, h2.2.1, h1.2.1]; rfl
  exact ⟨by rw [e0]; exact ⟨rfl, rfl, rfl, rfl, rfl⟩, by rw [e1]; exact ⟨rfl, rfl, rfl, rfl, rfl⟩⟩

set_option maxRecDepth 100000 in
set_option maxHeartbeats 8000000 in
theorem topDead_yes (B : Nat → Prop) (w : World) (v v' : Value) (L : Lay) (evs : List (List Ev × Value)) (hL : LayAt B w v L) (sm : L.Small 281474976710656) (hT : Tabs w) (he : EvsAt B w v' evs) :
    Calls Tryz.prog 6 #[v, v'] w fun x w' => x = .returned (.bool true) ∧ Ch Noone w w' := by
  have HL := Lib.hid hL
  have HE := Lib.hid he
  have HT := Lib.hid hT
  have SM := Lib.hid sm
  obtain ⟨q1, q2, q3, q4, rs, rfl, -, -, -, -, -, -⟩ := hL
  clear he hT sm
  obtain ⟨w0, hw0⟩ : ∃ w0, w0 = w.alloc (.cells #[q1, q2, q3, q4] 26) := ⟨_, rfl⟩
  have b0 : Blk w0 w.heap.size 26 #[q1, q2, q3, q4] := by rw [hw0]; exact Blk.new _ _ _
  have C0 : Ch Noone w w0 := by rw [hw0]; exact (Ch.refl _ _).alloc _
  have HW0 := Lib.hid hw0
  clear hw0
  go_enter Tryz.func6, Tryz.ntmps6
  go_wp2_with fail
  rw [← HW0.out]
  refine (fine_ref B _ _ _ L evs (HL.out.ch0 C0) SM.out (HT.out.ch0 C0) ⟨HE.out.1.ch0 C0, fun x hx => (HE.out.2 x hx).ch0 C0⟩).mono ?_
  rintro x w1 ⟨bf, rfl, hok, c1⟩
  have C1 := C0.trans c1
  have b1 := c1.blk b0 (fun h => h)
  clear b0 C0 c1
  cases bf
  · clear hok
    go_wp2_with fail
    go_ret
    exact ⟨rfl, C1⟩
  · have OK := Lib.hid (hok (by trivial))
    clear hok
    obtain ⟨l0, l1, l2, l3⟩ := Blk.cells4 b1
    go_wp2_with fail
    clear l0 l1 l2 l3
    refine (pair_new B w1 _ L (HL.out.ch0 C1) OK.out (HT.out.ch0 C1)).mono ?_
    rintro x w2 ⟨m, p, a0, a1, r, k, f, s, rfl, hp, hm, c2⟩
    have C2 := C1.trans c2
    have b2 := c2.blk b1 (fun h => h)
    obtain ⟨w3, hw3⟩ : ∃ w3, w3 = w2.alloc (.cells #[.int .i64 1, .int .i64 0, .int .i64 0, .int .i64 0, .int .i64 0, .int .i64 1, .int .i64 1, .int .i64 0, .int .i64 0, .int .i64 0] 52) := ⟨_, rfl⟩
    have c3 : Ch Noone w2 w3 := by rw [hw3]; exact (Ch.refl _ _).alloc _
    have hbe : Blk w3 w2.heap.size 52 #[.int .i64 1, .int .i64 0, .int .i64 0, .int .i64 0, .int .i64 0, .int .i64 1, .int .i64 1, .int .i64 0, .int .i64 0, .int .i64 0] := by rw [hw3]; exact Blk.new _ _ _
    have hp3 := hp.pure c3
    have hm3 : ∀ g, g < w.heap.size + 1 → lab m w2.heap.size 9 g = 9 := fun g hg => by
      have h1 := b1.lt
      have h2 := c2.size
      rw [lab_lt (by omega)]
      exact hm g (by omega)
    have hme : lab m w2.heap.size 9 w2.heap.size = 9 := lab_ge (Nat.le_refl _)
    have hsl : Sl (fun g => lab m w2.heap.size 9 g = 9) w3 (.slice (some ⟨w2.heap.size, 0, none⟩) 2 2) crashes.length (crashes.flatMap fEv) :=
      ⟨_, _, rfl, Nat.le_refl _, by decide, (fun h => by cases h), fun _ => ⟨_, 0, rfl, hme, hbe.lt, fun i hi => by rw [Nat.zero_add, hbe.cell i]; simp [crashes, fEv]⟩⟩
    have b3 := c3.blk b2 (fun h => h)
    have C3 := C2.trans c3
    generalize lab m w2.heap.size 9 = m3 at *
    have HP3 := Lib.hid hp3
    have HM3 := Lib.hid hm3
    have HCy := Lib.hid (cycle_dead _ crashes hsl (by decide) hp3 OK.out rfl (show (0 : Int) ≤ 0 from by decide) (show (0 : Int) ≤ 20000 from by decide) St.new_ok rfl rfl rfl (by intro e he; simp only [crashes, List.mem_cons, List.not_mem_nil, or_false] at he; rcases he with rfl | rfl <;> decide) (fun ps2 h => crash_off h))
    have HW3 := Lib.hid hw3
    clear hp hm c2 b2 b1 C1 C2 c3 hbe hp3 hm3 hme hsl hw3
    go_wp2_with fail
    rw [← HW3.out]
    refine HCy.out.mono ?_
    rintro x w4 ⟨v1, v2, m4, ps4, rfl, -, a4, hp4, c4, hd4, hn4⟩
    have HP4 := Lib.hid hp4
    have HD4 := Lib.hid hd4
    have HN4 := Lib.hid hn4
    have C4 : Ch Noone w w4 := C3.then c4 fun g hg h => by
      have h' : m3 g ≤ 6 := h
      have := HM3.out g (by omega)
      omega
    have b4 := b3.keep (HM3.out _ (by omega)) c4 a4
    have hb3 := b3.lt
    have HL4 : Hid (∀ g, g < w.heap.size → m4 g = 9) := fun g hg => (a4 g (by omega)).trans (HM3.out g (by omega))
    clear hp4 hd4 hn4 c4 a4 b3 C3 HCy HP3 hb3
    go_wp2_with fail
    refine (calm_any B w4 _ evs ⟨HE.out.1.ch0 C4, fun x hx => (HE.out.2 x hx).ch0 C4⟩).mono ?_
    rintro x w5 ⟨vc, xs, rfl, hxl, hvs, hxs, c5⟩
    have HX := Lib.hid hxs
    have HXl := Lib.hid hxl
    have C5 := C4.trans c5
    have hp5 := HP4.out.pure c5
    have b5 := b4.1.keep b4.2 c5.mineNo (Agree.lab w4 m4 9)
    have hvs5 : Sl (fun g => lab m4 w4.heap.size 9 g = 9) w5 vc xs.length (xs.flatMap fEvs) := hvs.mono fun g hg _ => lab_ge hg
    have hxs5 : ∀ x ∈ xs, Sl (fun g => lab m4 w4.heap.size 9 g = 9) w5 x.2 x.1.length (x.1.flatMap fEv) := fun x hx => (hxs x hx).1.sl.mono fun g hg _ => lab_ge hg
    have low5 : ∀ g, g < w.heap.size → lab m4 w4.heap.size 9 g ≤ 6 → False := fun g hg h => by
      rw [lab_lt (Nat.lt_of_lt_of_le hg C4.size), HL4.out g hg] at h
      omega
    obtain ⟨ac, cc, rfl, -, -, -, -⟩ := hvs
    generalize lab m4 w4.heap.size 9 = m5 at *
    have HP5 := Lib.hid hp5
    have HB5 := Lib.hid b5
    have HV5 := Lib.hid hvs5
    have HX5 := Lib.hid hxs5
    have HLow := Lib.hid low5
    have C5h := Lib.hid C5
    clear hxs hxl hp5 b5 hvs5 hxs5 low5 C4 C5 b4 c5 HP4
    go_wp2_with fail
    go_loopw [8] (fun i wr => ∃ (j : Nat) (mq : Nat → Nat) (ps : PS), j ≤ xs.length ∧ i = .int .i64 j ∧ Agree w5 m5 mq ∧ PairP mq wr p a0 a1 r k f s L ps ∧ Ch (Mine m5) w5 wr ∧ ps.Dead ∧ ps.now = (j : Int) + 1) (fun i _ => (xs.length - intOf i).toNat)
    case atStart => exact ⟨0, m5, ps4, by omega, rfl, Agree.refl _ _, HP5.out, Ch.refl _ _, HD4.out, by rw [HN4.out]; rfl⟩
    case round =>
      obtain ⟨j, mq, ps, hj, rfl, ha, hp, hch, hdd, hnow⟩ := hrel
      have HA := Lib.hid ha
      have HP := Lib.hid hp
      have HD := Lib.hid hdd
      have HN := Lib.hid hnow
      have CW : Hid (Ch Noone w wr) := C5h.out.then hch fun g hg h => HLow.out g hg h
      clear ha hp hdd hnow
      by_cases hjl : j < xs.length
      · have hj90 : j < 90 := Nat.lt_of_lt_of_le hjl HXl.out
        obtain ⟨b, off, rfl, -, hbw, hat⟩ := (HV5.out.keep hch HA.out).at (f := fEvs) (C := 1) (fun _ => rfl) (by omega) hjl
        have y0 : wr.cell? ⟨b, off + j, none⟩ = some xs[j].2 := by have := hat 0 (by omega); rw [Nat.mul_one] at this; exact this
        have hx := HX.out xs[j] (List.getElem_mem hjl)
        have hxs := (HX5.out xs[j] (List.getElem_mem hjl)).keep hch HA.out
        clear hat
        generalize xs[j] = y at *
        obtain ⟨es, vy⟩ := y
        dsimp only at *
        have HCy := Lib.hid (cycle_dead vy es hxs hx.2.1 HP.out OK.out HD.out.ln (by rw [HN.out]; omega) (by rw [HN.out]; omega) HD.out.re HD.out.rn HD.out.own HD.out.ep (fun e he => by have := hx.2.2 e he; rcases this with h | h | h <;> omega) (fun ps2 h => by
          obtain ⟨e0, e1⟩ := hap_calm hx.2.2 h
          rw [e0, e1]
          exact ⟨HD.out.u0, HD.out.u1⟩))
        have hj0 : (0 : Int) ≤ j := by omega
        have hj1 : (j : Int) < xs.length := by omega
        clear hx hxs
        go_wp2_with fail
        refine HCy.out.mono ?_
        rintro x w6 ⟨v1, v2, m6, ps6, rfl, ho6, a6, hp6, c6, hd6, hn6⟩
        obtain ⟨z1, z2, e, hdr, hpr⟩ := ho6
        cases e
        have HDr := Lib.hid hdr.sl
        have HPr := Lib.hid hpr.sl
        obtain ⟨e1, f1, rfl, -, -, -, -⟩ := hdr.sl
        obtain ⟨e2, f2, rfl, -, -, -, -⟩ := hpr.sl
        have HP6 := Lib.hid hp6
        have HD6 := Lib.hid hd6
        have HN6 := Lib.hid hn6
        have hch6 : Ch (Mine m5) w5 w6 := hch.next HA.out c6
        have HA6 := Lib.hid (HA.out.trans a6 hch.size)
        have C6 : Hid (Ch Noone w w6) := C5h.out.then hch6 fun g hg h => HLow.out g hg h
        have hbx := HB5.out.1.keep HB5.out.2 hch6 HA6.out
        have HBx := Lib.hid hbx.1
        have hz1 : (zeros L.pts.length).length = L.pts.length := List.length_replicate
        have hz2 : (nots L.sigs.length).length = L.sigs.length := List.length_replicate
        clear hdr hpr hp6 hd6 hn6 c6 a6 hbx HCy y0
        obtain ⟨l0, l1, l2, l3⟩ := Blk.cells4 HBx.out
        have hbx6 := HBx.out.lt
        have HDr' : Hid (Sl (fun g => m6 g = 9) w6 (.slice e1 L.pts.length f1) (zeros L.pts.length).length ((zeros L.pts.length).flatMap fInt)) := by
          have h := HDr.out
          rw [hz1] at h
          unfold Hid
          rw [hz1]
          exact h
        have HPr' : Hid (Sl (fun g => m6 g = 9 ∧ (Value.slice e1 (zeros L.pts.length).length f1).ownBlock ≠ some g) w6 (.slice e2 L.sigs.length f2) (nots L.sigs.length).length ((nots L.sigs.length).flatMap fB)) := by
          have h := HPr.out
          rw [hz2] at h
          unfold Hid
          rw [hz2]
          exact h
        obtain ⟨w7, hw7⟩ : ∃ w7, w7 = w6.alloc (.cells #[.slice e1 L.pts.length f1, .slice e2 L.sigs.length f2] 36) := ⟨_, rfl⟩
        have c7 : Ch Noone w6 w7 := by rw [hw7]; exact (Ch.refl _ _).alloc _
        have ho7 : Blk w7 w6.heap.size 36 #[.slice e1 L.pts.length f1, .slice e2 L.sigs.length f2] := by rw [hw7]; exact Blk.new _ _ _
        have C7 : Hid (Ch Noone w w7) := C6.out.trans c7
        have HW7 := Lib.hid hw7
        have q0 : ∀ x ∈ zeros L.pts.length, x = 0 := fun x hx => List.eq_of_mem_replicate hx
        have q1' : ∀ x ∈ nots L.sigs.length, x = false := fun x hx => List.eq_of_mem_replicate hx
        have p5 := OK.out.p1
        have g6 := OK.out.g1
        have HWh := Lib.hid (whole_yes B _ w7 _ L (.slice e1 L.pts.length f1) (.slice e2 L.sigs.length f2) (zeros L.pts.length) (nots L.sigs.length) (HL.out.ch0 C7.out) (HDr'.out.ch0 c7) ((HPr'.out.mono fun g hg _ => hg.1).ch0 c7) (by omega) (by omega) (fun x hx => by rw [q0 x hx]; exact ⟨by decide, by decide⟩) hz1 hz2)
        have HQu := Lib.hid (fun w9 (c9 : Ch Noone w7 w9) => quiet_yes _ w9 (.slice e1 L.pts.length f1) (.slice e2 L.sigs.length f2) (zeros L.pts.length) (nots L.sigs.length) ((HDr'.out.ch0 c7).ch0 c9) (((HPr'.out.mono fun g hg _ => hg.1).ch0 c7).ch0 c9) (by omega) (by omega) q0 q1')
        have HOo := Lib.hid ho7
        have HC7 := Lib.hid c7
        clear hw7 ho7 q0 q1' c7 HDr HPr
        go_wp2_with fail
        clear l0 l1 l2 l3 hbx6
        (try simp only [hz1, hz2])
        clear hz1 hz2
        rw [← HW7.out]
        refine HWh.out.mono ?_
        rintro x w8 ⟨rfl, c8⟩
        have ho8 := c8.blk HOo.out (fun h => h)
        have t0 : w8.cell? ⟨w6.heap.size, 0, none⟩ = some (.slice e1 L.pts.length f1) := ho8.cell 0
        have t1 : w8.cell? ⟨w6.heap.size, 1, none⟩ = some (.slice e2 L.sigs.length f2) := ho8.cell 1
        clear ho8
        go_wp2_with fail
        refine (HQu.out w8 c8).mono ?_
        rintro x w9 ⟨rfl, c9⟩
        have C9 : Ch Noone w6 w9 := (HC7.out.trans c8).trans c9
        have hp9 := HP6.out.pure C9
        have a9 := Agree.lab w6 m6 9
        generalize lab m6 w6.heap.size 9 = m9 at *
        have HP9 := Lib.hid hp9
        have HA9 := Lib.hid a9
        have HCo := Lib.hid (pair_con hp9)
        have HM0 := Lib.hid (pair_mode0 hp9)
        have HM1 := Lib.hid (pair_mode1 hp9)
        rw [HD6.out.con] at HCo
        rw [HD6.out.u0.m] at HM0
        rw [HD6.out.u1.m] at HM1
        have HCh9 : Hid (Ch (Mine m5) w5 w9) := hch6.then C9 fun _ _ h => h.elim
        clear hp9 a9 t0 t1 c8 c9 C9
        go_wp2_with fail
        refine HCo.out.mono ?_
        rintro x wa ⟨rfl, rfl⟩
        go_wp2_with fail
        refine HM0.out.mono ?_
        rintro x wb ⟨rfl, rfl⟩
        go_wp2_with fail
        refine HM1.out.mono ?_
        rintro x wc ⟨rfl, rfl⟩
        go_wp2_with fail
        go_roundw
        case rel => exact ⟨j + 1, m9, ps6, by omega, by go_num, HA6.out.trans HA9.out hch6.size, HP9.out, HCh9.out, HD6.out, by rw [HN6.out, HN.out]; omega⟩
        case measure => simp [intOf]; omega
      · have HT5 := HT.out.ch0 CW.out
        go_wp2_with fail
        refine (known_yes _ HT5).mono ?_
        rintro x w7 ⟨rfl, c7⟩
        go_wp2_with fail
        go_ret
        exact ⟨rfl, CW.out.trans c7⟩
end Go.Proofs.YtkplgggdidhnoaaGreatDoor

namespace Go.Proofs.YtkplgggdidhnoaaGreatDoor.topDead
open Go.ChangeShapes Go.WideShapes Go.ChangeAt Go.RowKit
set_option linter.unusedVariables false

theorem reads (os : Os) {H : Type} (enc : TypeId × Value → H) : ∃ places, DataW.whole enc Tryz.prog ((laid.laidWorld os).forCall (fun _ _ => 0) ⟨#[], #[.agg #[.slice none 0 0, .slice none 0 0, .slice none 0 0, .slice none 0 0], .slice none 0 0], []⟩).memory Tryz.f6.params.toList Rows.topDeadSpec.vars false #[Value.agg #[.slice none 0 0, .slice none 0 0, .slice none 0 0, .slice none 0 0], .slice none 0 0].toList 8 = some ([.agg [.nil, .nil, .nil, .nil], .nil], [], places) :=
  ⟨[], by kernel_rfl⟩

set_option maxRecDepth 100000 in
theorem contract (V : List TypeId) (H : Type) (enc : TypeId × Value → H) (W : World) (base : Nat) (args : Array Value) (ds gs : List (DataW H)) (before : List MemPlace)
    (hval0 : ∀ (j : Nat) t v, Tryz.f6.params[j]? = some t → args[j]? = some v → Value.okWide Tryz.prog W .any base t v)
    (hW : DataW.Whole enc Tryz.prog Tryz.f6.params.toList Rows.topDeadSpec.vars false W args.toList ds gs before) (hL : laidMet Tryz.prog laid.lst W) (hz : (DataW.weightsEach Tryz.prog (Tryz.f6.params.toList ++ V) (ds ++ gs)).all (· ≤ reachBytes) = true) :
    Calls Tryz.prog 6 args W fun e W' => ∃ v, e = .returned v ∧ Rows.topDeadSpec.post enc Tryz.prog Tryz.f6 false true false false W args v W' := by
  have hval : ∀ (j : Nat) t v, Tryz.f6.params[j]? = some t → args[j]? = some v → Value.okWide Tryz.prog W .any base t v := hval0
  have hW' := hW
  obtain ⟨p, q, hA0, hV, rfl, hfz, hnd⟩ := hW
  have hA : DataW.TrodAll enc Tryz.prog W 0 (fun _ => true) true Tryz.f6.params.toList args.toList ds p := hA0
  rw [Tryz.params6] at hA hval hz
  obtain ⟨v0, vs0, d0, ds0, p0, q0, hargs, rfl, rfl, h0, r0⟩ := trodAll_cons hA
  obtain ⟨v1, vs1, d1, ds1, p1, q1, rfl, rfl, rfl, h1, r1⟩ := trodAll_cons r0
  obtain ⟨rfl, rfl, rfl⟩ := trodAll_nil r1
  obtain rfl : args = #[v0, v1] := by cases args; simp_all
  obtain ⟨rfl, rfl⟩ := trodVars_none hV
  have k0 := h0
  have k1 := h1
  have lt0 : ∀ x ∈ p0, x.block < W.heap.size := by obtain ⟨m, hm⟩ := k0; exact DataW.trod_lt m _ _ _ hm
  have lt1 : ∀ x ∈ p1, x.block < W.heap.size := by obtain ⟨m, hm⟩ := k1; exact DataW.trod_lt m _ _ _ hm
  obtain ⟨cs0, rfl, hcs⟩ := okWide_struct Tryz.underlying26 (hval 0 26 v0 rfl rfl)
  obtain ⟨ao, len, cap, rfl⟩ := okWide_slice Tryz.underlying27 (hval 1 27 v1 rfl rfl)
  obtain ⟨f0, hf0⟩ := h0
  obtain ⟨f1, hf1⟩ := h1
  obtain ⟨L, hlay, hsm⟩ := open_layw f0 _ _ hf0 fun n hn => by
    have h := List.all_eq_true.1 hz n (DataW.weights_mem_each (j := 0) (t := 26) rfl rfl n hn)
    have h2 : n ≤ reachBytes := by simpa using h
    exact Nat.le_trans h2 (by decide)
  obtain ⟨u, es, hu, hev⟩ := open_evs f1 _ _ hf1
  have hu' : Value.slice ao len cap = u := by simpa [Value.cells] using hu
  subst hu'
  have hlay' : LayAt (fun g => g < W.heap.size) W (.agg cs0) L := by simpa [Value.cells] using hlay
  clear hA0 hval0 hlay hu hcs hz
  refine (topDead_yes _ W _ _ L es hlay' hsm (laid.tabs hL) hev).mono fun e W' ⟨he, hc⟩ => ?_
  subst he
  have bel : Below W.heap.size W W' := hc.below (Nat.le_refl _) (fun _ _ h => h)
  exact ⟨_, rfl, _, _, _, [], _, [], hW', trodAll_mk1 (shut_bool Tryz.underlying4 _), (trodAll_cons_mk (Below.trod laid.laidOut (by kernel_rfl) (of_decide_eq_true (by kernel_rfl)) k0 bel lt0) (trodAll_cons_mk (Below.trod laid.laidOut (by kernel_rfl) (of_decide_eq_true (by kernel_rfl)) k1 bel lt1) trodAll_mk0)), rfl, bel.frame _, fun h => by cases h⟩

set_option maxRecDepth 100000 in
theorem lifted (os : Os) (started : os.Started) (H : Type) (enc : TypeId × Value → H) (F : Stop.Interp) :
    ReturnsInHanded {} Tryz.checked os 6 .any ((OpenSpec.ofChange Rows.topDeadSpec).preRow enc Tryz.prog Tryz.f6 Rows.topDeadRow.domain false Rows.topDeadRow.laid) (((OpenSpec.ofChange Rows.topDeadSpec).at F).post enc Tryz.prog Tryz.f6 false true false false) := by
  obtain ⟨places, hx⟩ := reads os enc
  refine returnsInHanded_of_row (C := Tryz.checked) (s := OpenSpec.ofChange Rows.topDeadSpec) laid.own started (by kernel_rfl) Tryz.func6
    (witness_row_atRef (enc := enc) (C := Tryz.checked) false (laid.laidWorld os) #[.agg #[.slice none 0 0, .slice none 0 0, .slice none 0 0, .slice none 0 0], .slice none 0 0] rfl (by kernel_rfl) (by kernel_rfl) (by kernel_rfl)
      (OpenSpec.preRow_of_cond 8 hx (by kernel_rfl) (fun k hk => by cases hk) (by kernel_rfl) (laid.laid_met os _))) ?_
  intro W base args ds gs before hval hW _ _ hz hL _ _
  exact contract _ H enc W base args ds gs before hval hW hL hz

theorem said : Rows.TopDeadSaid :=
  OpenClaim.holds_of_cond 6 Tryz.f6 rfl rfl rfl rfl rfl rfl rfl ⟨rfl, rfl, rfl, rfl, rfl⟩ rfl rfl rfl rfl rfl (by kernel_rfl) Tryz.func6 (by kernel_rfl)
    (of_decide_eq_true (by kernel_rfl)) (by unfold Func.isWrapper; first | (rw [if_pos (by decide +kernel)]; kernel_rfl) | (rw [if_neg (by decide +kernel)]; exact ⟨rfl, rfl⟩))
    (fun os started H enc _ F => by rw [OpenClaim.pre_eq_preRow]; exact lifted os started H enc F)

/-- No parameter wants a stand-in; the program's own looks are off: what the card asks. -/
theorem plain (f : FuncId) (fn : Func) (hf : Tryz.pinned.checked.prog.funcNamed "pointsman/pointsmantop.TopDead" = some f) (hfn : Tryz.pinned.checked.prog.funcs[f]? = some fn) :
    true = Tryz.pinned.checked.prog.looks [] ∧ ∀ (j : Nat) t, fn.params[j]? = some t → Tryz.pinned.checked.prog.wantsStandIn t = false := by
  obtain rfl : f = 6 := Option.some.inj ((show Tryz.prog.funcNamed "pointsman/pointsmantop.TopDead" = some 6 by kernel_rfl).symm.trans hf) |>.symm
  obtain rfl : fn = Tryz.f6 := (Option.some.inj (Tryz.func6.symm.trans hfn)).symm
  refine ⟨by kernel_rfl, fun j t ht => ?_⟩
  rw [Tryz.params6] at ht
  have h := Array.mem_of_getElem? ht
  simp only [List.mem_toArray, List.mem_cons, List.not_mem_nil, or_false] at h
  rcases h with rfl | rfl
  · exact (show Tryz.prog.wantsStandIn 26 = false by kernel_rfl)
  · exact (show Tryz.prog.wantsStandIn 27 = false by kernel_rfl)

theorem proved : Rows.TopDeadCardSaid :=
  Claim7.holds_tied_plain_at .later [] _ _ _ _ said (fun _ h => by cases h) (by kernel_rfl) (fun _ h => by cases h) topDead_row_tie rfl ⟨rfl, rfl⟩ (by kernel_rfl) rfl plain (by kernel_rfl)
#print axioms proved
end Go.Proofs.YtkplgggdidhnoaaGreatDoor.topDead
