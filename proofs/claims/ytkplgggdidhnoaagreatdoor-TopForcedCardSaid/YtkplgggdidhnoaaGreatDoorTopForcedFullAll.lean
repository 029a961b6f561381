/-
  The law TopForced: what it answers is true. Conditions: no list, no name is longer than 281474976710656; the tables of unicode/utf8 are laid. TopForced holds for every input, and its card. Conditions: what the card's row itself says (the tables of unicode/utf8 as the program's text lays them).
-/
import Derived.Test.YtkplgggdidhnoaaGreatDoorM34
import Derived.Test.YtkplgggdidhnoaaGreatDoorM12
import Derived.Test.YtkplgggdidhnoaaGreatDoorM17
import Derived.Test.YtkplgggdidhnoaaGreatDoorM22
namespace Go.Proofs.YtkplgggdidhnoaaGreatDoor
open Go.ChangeShapes Go.WideShapes Go.ChangeAt Go.RowKit
set_option linter.unusedVariables false

theorem q_new (L : Lay) : (PS.new L).u0.Q ((0 : Nat) : Int) ∧ (PS.new L).u1.Q ((0 : Nat) : Int) := ⟨fun h => absurd h (show ¬ (2 : Int) = 4 by decide), fun h => absurd h (show ¬ (2 : Int) = 4 by decide)⟩

set_option maxRecDepth 100000 in
set_option maxHeartbeats 8000000 in
theorem topForced_yes (B : Nat → Prop) (w : World) (v v' : Value) (L : Lay) (evs : List (List Ev × Value)) (hL : LayAt B w v L) (sm : L.Small 281474976710656) (hT : Tabs w) (he : EvsAt B w v' evs) :
    Calls Tryz.prog 5 #[v, v'] w fun x w' => x = .returned (.bool true) ∧ Ch Noone w w' := by
  have HL := Lib.hid hL
  have HE := Lib.hid he
  have HT := Lib.hid hT
  have SM := Lib.hid sm
  obtain ⟨q1, q2, q3, q4, rs, rfl, -, -, -, -, -, -⟩ := hL
  obtain ⟨ae, ce, rfl, -, hce, -, -⟩ := id he.1
  clear he hT sm
  obtain ⟨w0, hw0⟩ : ∃ w0, w0 = w.alloc (.cells #[q1, q2, q3, q4] 26) := ⟨_, rfl⟩
  have b0 : Blk w0 w.heap.size 26 #[q1, q2, q3, q4] := by rw [hw0]; exact Blk.new _ _ _
  have C0 : Ch Noone w w0 := by rw [hw0]; exact (Ch.refl _ _).alloc _
  have HW0 := Lib.hid hw0
  clear hw0
  go_enter Tryz.func5, Tryz.ntmps5
  go_wp2_with fail
  rw [← HW0.out]
  refine (fine_ref B _ _ _ L evs (HL.out.ch0 C0) SM.out (HT.out.ch0 C0) ⟨HE.out.1.ch0 C0, fun x hx => (HE.out.2 x hx).ch0 C0⟩).mono ?_
  rintro x w1 ⟨bf, rfl, hok, c1⟩
  have C1 := C0.trans c1
  have b1 := c1.blk b0 (fun h => h)
  clear b0 C0 c1
  have HSl := Lib.hid (slow_any B w1 _ evs ⟨HE.out.1.ch0 C1, fun x hx => (HE.out.2 x hx).ch0 C1⟩)
  cases bf
  · clear hok
    go_wp2_with fail
    go_ret
    exact ⟨rfl, C1⟩
  · have OK := Lib.hid (hok (by trivial))
    clear hok
    obtain ⟨l0, l1, l2, l3⟩ := Blk.cells4 b1
    go_wp2_with fail
    refine HSl.out.mono ?_
    rintro x wz ⟨bs, rfl, hsl, hwz⟩
    rw [hwz]
    clear hwz wz
    cases bs
    case true =>
      go_wp2_with fail
      go_ret
      exact ⟨rfl, C1⟩
    have HNS := Lib.hid (hsl rfl)
    clear hsl
    go_wp2_with fail
    clear l0 l1 l2 l3
    refine (pair_new B w1 _ L (HL.out.ch0 C1) OK.out (HT.out.ch0 C1)).mono ?_
    rintro x w2 ⟨m, p, a0, a1, r, k, f, s, rfl, hp, hm, c2⟩
    have C2 := C1.trans c2
    have HP2 := Lib.hid hp
    have HM2 : Hid (∀ g, g < w.heap.size + 1 → m g = 9) := fun g hg => hm g (by have := b1.lt; omega)
    have HB2 := Lib.hid (c2.blk b1 (fun h => h))
    have C2h := Lib.hid C2
    have HV2 : Hid (Sl (fun g => m g = 9 ∧ g < w.heap.size) w2 (.slice ae evs.length ce) evs.length (evs.flatMap fEvs)) :=
      ((HE.out.1.mono (B' := fun g => g < w.heap.size) fun g _ hl => hl).ch0 C2).mono fun g hg _ => ⟨HM2.out g (by omega), hg⟩
    have HX2 : Hid (∀ x ∈ evs, Sl (fun g => m g = 9 ∧ g < w.heap.size) w2 x.2 x.1.length (x.1.flatMap fEv)) := fun x hx =>
      (((HE.out.2 x hx).mono (B' := fun g => g < w.heap.size) fun g _ hl => hl).ch0 C2).mono fun g hg _ => ⟨HM2.out g (by omega), hg⟩
    have HLow : Hid (∀ g, g < w.heap.size → m g ≤ 6 → False) := fun g hg h => by rw [HM2.out g (by omega)] at h; omega
    have HV3 : Hid (Sl (fun g => g < w.heap.size) w2 (.slice ae evs.length ce) evs.length (evs.flatMap fEvs)) := HV2.out.mono fun g hg _ => hg.2
    have HX3 : Hid (∀ x ∈ evs, Sl (fun g => g < w.heap.size) w2 x.2 x.1.length (x.1.flatMap fEv)) := fun x hx => (HX2.out x hx).mono fun g hg _ => hg.2
    have HS2 : Hid (w.heap.size < w2.heap.size) := by have := b1.lt; have := c2.size; show w.heap.size < w2.heap.size; omega
    obtain ⟨w3, hw3⟩ : ∃ w3, w3 = w2.alloc (.cells #[.int .i64 0, .int .i64 0] 57) := ⟨_, rfl⟩
    have HZ3 : Hid (Blk w3 w2.heap.size 57 #[.int .i64 0, .int .i64 0]) := by rw [hw3]; exact Blk.new _ _ _
    have C3 : Ch Noone w2 w3 := by rw [hw3]; exact (Ch.refl _ _).alloc _
    obtain ⟨m3, hm3⟩ : ∃ m3, m3 = lab m w2.heap.size 9 := ⟨_, rfl⟩
    have HP3 : Hid (PairP m3 w3 p a0 a1 r k f s L (PS.new L)) := by rw [hm3]; exact hp.pure C3
    have H9 : Hid (∀ g, g < w.heap.size → m3 g = 9 ∧ g ≠ w2.heap.size ∧ g < w3.heap.size) := fun g hg => by
      have := HS2.out
      have := C3.size
      refine ⟨?_, by omega, by omega⟩
      rw [hm3]; exact (lab_lt (by omega)).trans (HM2.out g (by omega))
    have HZ9 : Hid (m3 w2.heap.size = 9 ∧ w2.heap.size < w3.heap.size) := ⟨by rw [hm3]; exact lab_ge (Nat.le_refl _), HZ3.out.lt⟩
    have HVs : Hid (∀ S W, Ch S w3 W → (∀ g, g < w.heap.size → ¬ S g) → Sl (fun g => g < w.heap.size) W (.slice ae evs.length ce) evs.length (evs.flatMap fEvs)) := fun S W c h => (HV3.out.ch0 C3).ch c fun g hg _ => h g hg
    have HXs : Hid (∀ S W, Ch S w3 W → (∀ g, g < w.heap.size → ¬ S g) → ∀ x ∈ evs, Sl (fun g => g < w.heap.size) W x.2 x.1.length (x.1.flatMap fEv)) := fun S W c h x hx => ((HX3.out x hx).ch0 C3).ch c fun g hg _ => h g hg
    have HSS : Hid (∀ g, g < w.heap.size → ¬ (Mine m3 g ∨ g = w2.heap.size)) := fun g hg h => by
      obtain ⟨e1, e2, _⟩ := H9.out g hg
      rcases h with h | h
      · have h' : m3 g ≤ 6 := h
        omega
      · exact e2 h
    have C3h : Hid (Ch Noone w w3) := C2.trans C3
    have HW3 := Lib.hid hw3
    clear hp hm c2 b1 C1 C2 hw3 C3 hm3 HV2 HX2 HV3 HX3 HLow
    go_wp2_with fail
    rw [← HW3.out]
    go_loopw [8] (fun i wr => ∃ (j f0 f1 : Nat) (mq : Nat → Nat) (ps : PS), j ≤ evs.length ∧ j ≤ 90 ∧ f0 ≤ j ∧ f1 ≤ j ∧ i = .int .i64 j ∧
      Hid (Agree w3 m3 mq) ∧ Hid (PairP mq wr p a0 a1 r k f s L ps) ∧ Hid (Ch (fun g => Mine m3 g ∨ g = w2.heap.size) w3 wr) ∧ Hid (Blk wr w2.heap.size 57 #[.int .i64 f0, .int .i64 f1]) ∧ Hid (ps.Inv j ∧ ps.F ∧ ps.u0.Q f0 ∧ ps.u1.Q f1)) (fun i _ => (evs.length - intOf i).toNat)
    case atStart => exact ⟨0, 0, 0, m3, PS.new L, by omega, by omega, by omega, by omega, rfl, Agree.refl _ _, HP3.out, Ch.refl _ _, HZ3.out, PS.J.new L, f_new L, q_new L⟩
    case round =>
      obtain ⟨j, f0, f1, mq, ps, hj, hj90, hf0, hf1, rfl, HA, HP, HCh, HZ, HI⟩ := hrel
      have CW : Hid (Ch Noone w wr) := C3h.out.then HCh.out fun g hg h => HSS.out g hg h
      by_cases hjl : j < evs.length ∧ j < 90
      · obtain ⟨hjl, hjm⟩ := hjl
        obtain ⟨w4, hw4⟩ : ∃ w4, w4 = wr.alloc (.cells #[.int .i64 ps.u0.mode, .int .i64 ps.u1.mode] 57) := ⟨_, rfl⟩
        have c4 : Ch Noone wr w4 := by rw [hw4]; exact (Ch.refl _ _).alloc _
        have HY4 : Hid (Blk w4 wr.heap.size 57 #[.int .i64 ps.u0.mode, .int .i64 ps.u1.mode]) := by rw [hw4]; exact Blk.new _ _ _
        have hch4 : Hid (Ch (fun g => Mine m3 g ∨ g = w2.heap.size) w3 w4) := HCh.out.then c4 fun _ _ h => h.elim
        have HZ4 : Hid (Blk w4 w2.heap.size 57 #[.int .i64 f0, .int .i64 f1]) := c4.blk HZ.out (fun h => h)
        have HP4 := Lib.hid (HP.out.pure c4)
        have HA4 : Hid (Agree w3 m3 (lab mq wr.heap.size 9)) := HA.out.trans (Agree.lab wr mq 9) HCh.out.size
        have hm4y : lab mq wr.heap.size 9 wr.heap.size = 9 := lab_ge (Nat.le_refl _)
        generalize lab mq wr.heap.size 9 = m4 at *
        have HM4Y := Lib.hid hm4y
        have HM4Z : Hid (m4 w2.heap.size = 9) := (HA4.out _ HZ9.out.2).trans HZ9.out.1
        obtain ⟨b, off, rfl, -, hbw, hat⟩ := (HVs.out _ w4 hch4.out HSS.out).at (f := fEvs) (C := 1) (fun _ => rfl) (by omega) hjl
        have y0 : w4.cell? ⟨b, off + j, none⟩ = some evs[j].2 := by have := hat 0 (by omega); rw [Nat.mul_one] at this; exact this
        rw [hw4] at y0
        have hxs := (HXs.out _ w4 hch4.out HSS.out evs[j] (List.getElem_mem hjl)).mono (B' := fun g => m4 g = 9) fun g hg _ => (HA4.out g (H9.out g hg).2.2).trans (H9.out g hg).1
        have HN3 : Hid (∀ e ∈ evs[j].1.take 8, e.kind ≠ 3) := fun e he => HNS.out j hjl hjm e (List.mem_of_mem_take he)
        clear hat
        generalize evs[j] = y at *
        obtain ⟨es, vy⟩ := y
        dsimp only at *
        have HCy := Lib.hid (cycle_inv vy es hxs HP4.out OK.out HI.out.1 (by omega) (by omega))
        obtain ⟨ay, cy, rfl, -, -, -, -⟩ := hxs
        have HM0 := Lib.hid (pair_mode0 HP.out)
        have HM1 := Lib.hid (pair_mode1 HP.out)
        have hj0 : (0 : Int) ≤ j := by omega
        have hj1 : (j : Int) < evs.length := by omega
        have hj9 : (j : Int) < 90 := by omega
        have HW4 := Lib.hid hw4
        clear hw4 c4 hm4y
        go_wp2_with fail
        refine HM0.out.mono ?_
        rintro x wz ⟨rfl, hwz⟩
        rw [hwz]
        clear hwz wz
        go_wp2_with fail
        refine HM1.out.mono ?_
        rintro x wz ⟨rfl, hwz⟩
        rw [hwz]
        clear hwz wz
        go_wp2_with fail
        rw [← HW4.out]
        refine HCy.out.mono ?_
        rintro x w6 ⟨v1, v2, m6, ps6, d, q, rfl, ho6, a6, hp6, c6, hrun, hinv, hdl, hql, hdr⟩
        have HF0 := Lib.hid (forced_run0 HI.out.1 HI.out.2.1 (Int.natCast_nonneg f0) HI.out.2.2.1 HN3.out hrun)
        have HF1 := Lib.hid (forced_run1 HI.out.1 HI.out.2.1 (Int.natCast_nonneg f1) HI.out.2.2.2 HN3.out hrun)
        have HF : Hid ps6.F := f_run HI.out.1 hj0 (by omega) HI.out.2.1 HN3.out hrun
        have HInv := Lib.hid hinv
        have HP6 := Lib.hid hp6
        have HA6 := Lib.hid (HA4.out.trans a6 hch4.out.size)
        have hz6 := HZ4.out.keep HM4Z.out c6 a6
        have hy6 := HY4.out.keep HM4Y.out c6 a6
        have HZ6 := Lib.hid hz6.1
        have HZM := Lib.hid hz6.2
        have HY6 := Lib.hid hy6.1
        have hch6 : Hid (Ch (fun g => Mine m3 g ∨ g = w2.heap.size) w3 w6) := hch4.out.then c6 fun g hg h => by
          have h' : m4 g ≤ 6 := h
          rw [HA4.out g hg] at h'
          exact .inl h'
        have hne : Hid (wr.heap.size ≠ w2.heap.size) := by
          have h1 := HZ.out.lt
          show wr.heap.size ≠ w2.heap.size
          omega
        clear hz6 hy6 hrun hinv hp6 ho6 a6 c6 hdl hql hdr y0
        go_wp2_with fail
        clear HCh HZ HP HA HM0 HM1 HP4 HA4 HZ4 HY4 HCy HW4 hch4 HM4Y HM4Z CW
        generalize wr.heap.size = Y at *
        clear wr
        obtain ⟨wa0, hwa0⟩ : ∃ x, x = ps.u0.mode := ⟨_, rfl⟩
        obtain ⟨wa1, hwa1⟩ : ∃ x, x = ps.u1.mode := ⟨_, rfl⟩
        obtain ⟨mo0, hmo0⟩ : ∃ x, x = ps6.u0.mode := ⟨_, rfl⟩
        obtain ⟨mo1, hmo1⟩ : ∃ x, x = ps6.u1.mode := ⟨_, rfl⟩
        rw [← hwa0, ← hwa1] at HY6
        rw [← hwa0, ← hmo0] at HF0
        rw [← hwa1, ← hmo1] at HF1
        have HMo0 : Hid (∀ W, Ch (fun g => g = w2.heap.size) w6 W → Calls Tryz.prog 18 #[.pointer (some ⟨p, 0, none⟩), .int .i64 0] W fun e w' => e = .returned (.int .i64 mo0) ∧ w' = W) := fun W c => by
          rw [hmo0]
          exact pair_mode0 (HP6.out.pure9 (c.mono fun g _ e => by rw [e]; exact HZM.out))
        have HMo1 : Hid (∀ W, Ch (fun g => g = w2.heap.size) w6 W → Calls Tryz.prog 18 #[.pointer (some ⟨p, 0, none⟩), .int .i64 1] W fun e w' => e = .returned (.int .i64 mo1) ∧ w' = W) := fun W c => by
          rw [hmo1]
          exact pair_mode1 (HP6.out.pure9 (c.mono fun g _ e => by rw [e]; exact HZM.out))
        have HQ0 : Hid ((∀ (g : Nat), mo0 = 4 → g = f0 + 1 → ps6.u0.Q g) ∧ (∀ (g : Nat), mo0 ≠ 4 → ps6.u0.Q g)) := ⟨fun g h e => by
          rw [e]
          have := HF0.out.1
          have e2 : (((f0 + 1 : Nat) : Int)) = (f0 : Int) + 1 := by omega
          rw [e2]; exact this, fun g h h4 => absurd (hmo0.trans h4) h⟩
        have HQ1 : Hid ((∀ (g : Nat), mo1 = 4 → g = f1 + 1 → ps6.u1.Q g) ∧ (∀ (g : Nat), mo1 ≠ 4 → ps6.u1.Q g)) := ⟨fun g h e => by
          rw [e]
          have := HF1.out.1
          have e2 : (((f1 + 1 : Nat) : Int)) = (f1 : Int) + 1 := by omega
          rw [e2]; exact this, fun g h h4 => absurd (hmo1.trans h4) h⟩
        have HN0 : Hid (wa0 = 4 → mo0 = 3 → 9 ≤ (f0 : Int)) := HF0.out.2
        have HN1 : Hid (wa1 = 4 → mo1 = 3 → 9 ≤ (f1 : Int)) := HF1.out.2
        clear hwa0 hwa1 hmo0 hmo1 HF0 HF1
        go_loopw [10] (fun u wr => ∃ (U : Int) (g0 g1 : Nat), 0 ≤ U ∧ U ≤ 2 ∧ u = .int .i64 U ∧ g0 ≤ j + 1 ∧ g1 ≤ j + 1 ∧ Hid (Ch (fun g => g = w2.heap.size) w6 wr) ∧ Hid (Blk wr w2.heap.size 57 #[.int .i64 g0, .int .i64 g1]) ∧
          Hid ((U = 0 → g0 = f0) ∧ (U ≤ 1 → g1 = f1) ∧ (1 ≤ U → ps6.u0.Q g0) ∧ (2 ≤ U → ps6.u1.Q g1))) (fun u _ => (2 - intOf u).toNat)
        case atStart => exact ⟨0, f0, f1, by omega, by omega, rfl, by omega, by omega, Ch.refl _ _, HZ6.out, fun _ => rfl, fun _ => rfl, fun h => by omega, fun h => by omega⟩
        case round =>
          obtain ⟨U, g0, g1, hU0, hU2, rfl, hg0, hg1, HC, HB, HG⟩ := hrel
          have hUU : U = 0 ∨ U = 1 ∨ U = 2 := by omega
          have by1 := Ch.blk HC.out HY6.out hne.out
          have bz1 := HB.out
          have y0 := by1.cell 0
          have y1 := by1.cell 1
          have z0 := bz1.cell 0
          have z1 := bz1.cell 1
          have zf0 := bz1.free 0
          have zf1 := bz1.free 1
          have HM0 := Lib.hid (HMo0.out _ HC.out)
          have HM1 := Lib.hid (HMo1.out _ HC.out)
          clear by1 bz1
          rcases hUU with rfl | rfl | rfl
          · have hg : g0 = f0 := HG.out.1 rfl
            subst hg
            have HO : Hid (g1 = f1) := HG.out.2.1 (by omega)
            clear HG
            have y8 : (wr.setCell ⟨w2.heap.size, 0, none⟩ (.int .i64 ((g0 : Int) + 1))).cell? ⟨Y, 0, none⟩ = some (.int .i64 wa0) := ((Ch.blk HC.out HY6.out hne.out).other hne.out 0 _).cell 0
            have HB1 := Lib.hid (show Blk (wr.setCell ⟨w2.heap.size, 0, none⟩ (.int .i64 ((g0 : Int) + 1))) w2.heap.size 57 #[.int .i64 ((g0 + 1 : Nat) : Int), .int .i64 g1] by have := HB.out.set 0 (.int .i64 ((g0 : Int) + 1)); simpa using this)
            have HB0 := Lib.hid (show Blk (wr.setCell ⟨w2.heap.size, 0, none⟩ (.int .i64 0)) w2.heap.size 57 #[.int .i64 ((0 : Nat) : Int), .int .i64 g1] by have := HB.out.set 0 (.int .i64 0); simpa using this)
            clear hU0 hU2
            go_wp2_with fail
            refine HM0.out.mono ?_
            rintro x wz ⟨rfl, hwz⟩
            rw [hwz]
            clear hwz wz
            have hcase : (mo0 = 4 ∧ wa0 = 4) ∨ (mo0 = 4 ∧ (wa0 == 4) = false) ∨ ((mo0 == 4) = false ∧ (mo0 != 4) = true ∧ (wa0 == 4) = false) ∨ (wa0 = 4 ∧ (mo0 == 4) = false ∧ (mo0 != 4) = true ∧ (mo0 == 3) = false) ∨ (wa0 = 4 ∧ mo0 = 3 ∧ 9 ≤ (g0 : Int)) := by
              by_cases h1 : mo0 = 4 <;> by_cases h2 : wa0 = 4 <;> simp [h1, h2]
              by_cases h3 : mo0 = 3
              · exact .inr (HN0.out h2 h3 |> fun h => ⟨h3, by omega⟩)
              · exact .inl h3
            have HQ4 : Hid (mo0 = 4 → ps6.u0.Q ((g0 + 1 : Nat) : Int)) := fun h => HQ0.out.1 _ h rfl
            have HQN : Hid ((mo0 == 4) = false → ps6.u0.Q ((0 : Nat) : Int)) := fun h => HQ0.out.2 _ (by simpa using h)
            clear HMo0 HMo1 HQ0 HQ1 HN0 HN1 HM0 HM1
            rcases hcase with ⟨rfl, rfl⟩ | ⟨rfl, h2⟩ | ⟨h1, h2, h3⟩ | ⟨rfl, h1, h2, h3⟩ | ⟨rfl, rfl, h3⟩
            · have HQs := Lib.hid (HQ4.out rfl)
              clear HQ4 HQN
              go_wp2_with fail
              go_roundw
              case rel => exact ⟨1, g0 + 1, g1, by omega, by omega, rfl, by omega, hg1, HC.out.set1 0 _, HB1.out, (fun h => by omega), (fun _ => HO.out), (fun _ => HQs.out), (fun h => by omega)⟩
              case measure => simp [intOf]
            · have HQs := Lib.hid (HQ4.out rfl)
              clear HQ4 HQN
              go_wp2_with fail
              go_roundw
              case rel => exact ⟨1, g0 + 1, g1, by omega, by omega, rfl, by omega, hg1, HC.out.set1 0 _, HB1.out, (fun h => by omega), (fun _ => HO.out), (fun _ => HQs.out), (fun h => by omega)⟩
              case measure => simp [intOf]
            · have HQs := Lib.hid (HQN.out h1)
              clear HQ4 HQN
              go_wp2_with fail
              go_roundw
              case rel => exact ⟨1, 0, g1, by omega, by omega, rfl, by omega, hg1, HC.out.set1 0 _, HB0.out, (fun h => by omega), (fun _ => HO.out), (fun _ => HQs.out), (fun h => by omega)⟩
              case measure => simp [intOf]
            · have HQs := Lib.hid (HQN.out h1)
              clear HQ4 HQN
              go_wp2_with fail
              go_roundw
              case rel => exact ⟨1, 0, g1, by omega, by omega, rfl, by omega, hg1, HC.out.set1 0 _, HB0.out, (fun h => by omega), (fun _ => HO.out), (fun _ => HQs.out), (fun h => by omega)⟩
              case measure => simp [intOf]
            · have HQs := Lib.hid (HQN.out rfl)
              clear HQ4 HQN
              go_wp2_with fail
              go_roundw
              case rel => exact ⟨1, 0, g1, by omega, by omega, rfl, by omega, hg1, HC.out.set1 0 _, HB0.out, (fun h => by omega), (fun _ => HO.out), (fun _ => HQs.out), (fun h => by omega)⟩
              case measure => simp [intOf]
          · have hg : g1 = f1 := HG.out.2.1 (by omega)
            subst hg
            have HO : Hid (ps6.u0.Q g0) := HG.out.2.2.1 (by omega)
            clear HG
            have y8 : (wr.setCell ⟨w2.heap.size, 1, none⟩ (.int .i64 ((g1 : Int) + 1))).cell? ⟨Y, 1, none⟩ = some (.int .i64 wa1) := ((Ch.blk HC.out HY6.out hne.out).other hne.out 1 _).cell 1
            have HB1 := Lib.hid (show Blk (wr.setCell ⟨w2.heap.size, 1, none⟩ (.int .i64 ((g1 : Int) + 1))) w2.heap.size 57 #[.int .i64 g0, .int .i64 ((g1 + 1 : Nat) : Int)] by have := HB.out.set 1 (.int .i64 ((g1 : Int) + 1)); simpa using this)
            have HB0 := Lib.hid (show Blk (wr.setCell ⟨w2.heap.size, 1, none⟩ (.int .i64 0)) w2.heap.size 57 #[.int .i64 g0, .int .i64 ((0 : Nat) : Int)] by have := HB.out.set 1 (.int .i64 0); simpa using this)
            clear hU0 hU2
            go_wp2_with fail
            refine HM1.out.mono ?_
            rintro x wz ⟨rfl, hwz⟩
            rw [hwz]
            clear hwz wz
            have hcase : (mo1 = 4 ∧ wa1 = 4) ∨ (mo1 = 4 ∧ (wa1 == 4) = false) ∨ ((mo1 == 4) = false ∧ (mo1 != 4) = true ∧ (wa1 == 4) = false) ∨ (wa1 = 4 ∧ (mo1 == 4) = false ∧ (mo1 != 4) = true ∧ (mo1 == 3) = false) ∨ (wa1 = 4 ∧ mo1 = 3 ∧ 9 ≤ (g1 : Int)) := by
              by_cases h1 : mo1 = 4 <;> by_cases h2 : wa1 = 4 <;> simp [h1, h2]
              by_cases h3 : mo1 = 3
              · exact .inr (HN1.out h2 h3 |> fun h => ⟨h3, by omega⟩)
              · exact .inl h3
            have HQ4 : Hid (mo1 = 4 → ps6.u1.Q ((g1 + 1 : Nat) : Int)) := fun h => HQ1.out.1 _ h rfl
            have HQN : Hid ((mo1 == 4) = false → ps6.u1.Q ((0 : Nat) : Int)) := fun h => HQ1.out.2 _ (by simpa using h)
            clear HMo0 HMo1 HQ0 HQ1 HN0 HN1 HM0 HM1
            rcases hcase with ⟨rfl, rfl⟩ | ⟨rfl, h2⟩ | ⟨h1, h2, h3⟩ | ⟨rfl, h1, h2, h3⟩ | ⟨rfl, rfl, h3⟩
            · have HQs := Lib.hid (HQ4.out rfl)
              clear HQ4 HQN
              go_wp2_with fail
              go_roundw
              case rel => exact ⟨2, g0, g1 + 1, by omega, by omega, rfl, hg0, by omega, HC.out.set1 1 _, HB1.out, (fun h => by omega), (fun h => by omega), (fun _ => HO.out), (fun _ => HQs.out)⟩
              case measure => simp [intOf]
            · have HQs := Lib.hid (HQ4.out rfl)
              clear HQ4 HQN
              go_wp2_with fail
              go_roundw
              case rel => exact ⟨2, g0, g1 + 1, by omega, by omega, rfl, hg0, by omega, HC.out.set1 1 _, HB1.out, (fun h => by omega), (fun h => by omega), (fun _ => HO.out), (fun _ => HQs.out)⟩
              case measure => simp [intOf]
            · have HQs := Lib.hid (HQN.out h1)
              clear HQ4 HQN
              go_wp2_with fail
              go_roundw
              case rel => exact ⟨2, g0, 0, by omega, by omega, rfl, hg0, by omega, HC.out.set1 1 _, HB0.out, (fun h => by omega), (fun h => by omega), (fun _ => HO.out), (fun _ => HQs.out)⟩
              case measure => simp [intOf]
            · have HQs := Lib.hid (HQN.out h1)
              clear HQ4 HQN
              go_wp2_with fail
              go_roundw
              case rel => exact ⟨2, g0, 0, by omega, by omega, rfl, hg0, by omega, HC.out.set1 1 _, HB0.out, (fun h => by omega), (fun h => by omega), (fun _ => HO.out), (fun _ => HQs.out)⟩
              case measure => simp [intOf]
            · have HQs := Lib.hid (HQN.out rfl)
              clear HQ4 HQN
              go_wp2_with fail
              go_roundw
              case rel => exact ⟨2, g0, 0, by omega, by omega, rfl, hg0, by omega, HC.out.set1 1 _, HB0.out, (fun h => by omega), (fun h => by omega), (fun _ => HO.out), (fun _ => HQs.out)⟩
              case measure => simp [intOf]
          · have HQa : Hid (ps6.u0.Q g0) := HG.out.2.2.1 (by omega)
            have HQb : Hid (ps6.u1.Q g1) := HG.out.2.2.2 (by omega)
            clear HG hU0 hU2
            have HIn : Hid (PS.Inv ((j + 1 : Nat) : Int) ps6) := by
              have e : ((j + 1 : Nat) : Int) = (j : Int) + 1 := by omega
              rw [e]
              exact HInv.out
            go_wp2_with fail
            go_roundw
            case rel => exact ⟨j + 1, g0, g1, lab m6 w6.heap.size 9, ps6, by omega, by omega, hg0, hg1, by go_num, HA6.out.trans (Agree.lab w6 m6 9) hch6.out.size, HP6.out.pure9 (HC.out.mono fun g _ e => by rw [e]; exact HZM.out), hch6.out.then HC.out (fun _ _ h => .inr h), HB.out, HIn.out, HF.out, HQa.out, HQb.out⟩
            case measure => simp [intOf]; omega
      · have hjx : evs.length ≤ j ∨ (j < evs.length ∧ j = 90) := by omega
        have HT5 := HT.out.ch0 CW.out
        clear hjl
        rcases hjx with hjx | ⟨hjx, rfl⟩
        · have hjx' : (evs.length : Int) ≤ j := by omega
          go_wp2_with fail
          refine (known_yes _ HT5).mono ?_
          rintro x w7 ⟨rfl, c7⟩
          go_wp2_with fail
          go_ret
          exact ⟨rfl, CW.out.trans c7⟩
        · have hjx' : (90 : Int) < evs.length := by omega
          go_wp2_with fail
          refine (known_yes _ HT5).mono ?_
          rintro x w7 ⟨rfl, c7⟩
          go_wp2_with fail
          go_ret
          exact ⟨rfl, CW.out.trans c7⟩
end Go.Proofs.YtkplgggdidhnoaaGreatDoor

namespace Go.Proofs.YtkplgggdidhnoaaGreatDoor.topForced
open Go.ChangeShapes Go.WideShapes Go.ChangeAt Go.RowKit
set_option linter.unusedVariables false

theorem reads (os : Os) {H : Type} (enc : TypeId × Value → H) : ∃ places, DataW.whole enc Tryz.prog ((laid.laidWorld os).forCall (fun _ _ => 0) ⟨#[], #[.agg #[.slice none 0 0, .slice none 0 0, .slice none 0 0, .slice none 0 0], .slice none 0 0], []⟩).memory Tryz.f5.params.toList Rows.topForcedSpec.vars false #[Value.agg #[.slice none 0 0, .slice none 0 0, .slice none 0 0, .slice none 0 0], .slice none 0 0].toList 8 = some ([.agg [.nil, .nil, .nil, .nil], .nil], [], places) :=
  ⟨[], by kernel_rfl⟩

set_option maxRecDepth 100000 in
theorem contract (V : List TypeId) (H : Type) (enc : TypeId × Value → H) (W : World) (base : Nat) (args : Array Value) (ds gs : List (DataW H)) (before : List MemPlace)
    (hval0 : ∀ (j : Nat) t v, Tryz.f5.params[j]? = some t → args[j]? = some v → Value.okWide Tryz.prog W .any base t v)
    (hW : DataW.Whole enc Tryz.prog Tryz.f5.params.toList Rows.topForcedSpec.vars false W args.toList ds gs before) (hL : laidMet Tryz.prog laid.lst W) (hz : (DataW.weightsEach Tryz.prog (Tryz.f5.params.toList ++ V) (ds ++ gs)).all (· ≤ reachBytes) = true) :
    Calls Tryz.prog 5 args W fun e W' => ∃ v, e = .returned v ∧ Rows.topForcedSpec.post enc Tryz.prog Tryz.f5 false true false false W args v W' := by
  have hval : ∀ (j : Nat) t v, Tryz.f5.params[j]? = some t → args[j]? = some v → Value.okWide Tryz.prog W .any base t v := hval0
  have hW' := hW
  obtain ⟨p, q, hA0, hV, rfl, hfz, hnd⟩ := hW
  have hA : DataW.TrodAll enc Tryz.prog W 0 (fun _ => true) true Tryz.f5.params.toList args.toList ds p := hA0
  rw [Tryz.params5] at hA hval hz
  obtain ⟨v0, vs0, d0, ds0, p0, q0, hargs, rfl, rfl, h0, r0⟩ := trodAll_cons hA
  obtain ⟨v1, vs1, d1, ds1, p1, q1, rfl, rfl, rfl, h1, r1⟩ := trodAll_cons r0
  obtain ⟨rfl, rfl, rfl⟩ := trodAll_nil r1
  obtain rfl : args = #[v0, v1] := by cases args; simp_all
  obtain ⟨rfl, rfl⟩ := trodVars_none hV
  have k0 := h0
  have k1 := h1
  have lt0 : ∀ x ∈ p0, x.block < W.heap.size := by obtain ⟨m, hm⟩ := k0; exact DataW.trod_lt m _ _ _ hm
  have lt1 : ∀ x ∈ p1, x.block < W.heap.size := by obtain ⟨m, hm⟩ := k1; exact DataW.trod_lt m _ _ _ hm
  obtain ⟨cs0, rfl, hcs⟩ := okWide_struct Tryz.underlying26 (hval 0 26 v0 rfl rfl)
  obtain ⟨ao, len, cap, rfl⟩ := okWide_slice Tryz.underlying27 (hval 1 27 v1 rfl rfl)
  obtain ⟨f0, hf0⟩ := h0
  obtain ⟨f1, hf1⟩ := h1
  obtain ⟨L, hlay, hsm⟩ := open_layw f0 _ _ hf0 fun n hn => by
    have h := List.all_eq_true.1 hz n (DataW.weights_mem_each (j := 0) (t := 26) rfl rfl n hn)
    have h2 : n ≤ reachBytes := by simpa using h
    exact Nat.le_trans h2 (by decide)
  obtain ⟨u, es, hu, hev⟩ := open_evs f1 _ _ hf1
  have hu' : Value.slice ao len cap = u := by simpa [Value.cells] using hu
  subst hu'
  have hlay' : LayAt (fun g => g < W.heap.size) W (.agg cs0) L := by simpa [Value.cells] using hlay
  clear hA0 hval0 hlay hu hcs hz
  refine (topForced_yes _ W _ _ L es hlay' hsm (laid.tabs hL) hev).mono fun e W' ⟨he, hc⟩ => ?_
  subst he
  have bel : Below W.heap.size W W' := hc.below (Nat.le_refl _) (fun _ _ h => h)
  exact ⟨_, rfl, _, _, _, [], _, [], hW', trodAll_mk1 (shut_bool Tryz.underlying4 _), (trodAll_cons_mk (Below.trod laid.laidOut (by kernel_rfl) (of_decide_eq_true (by kernel_rfl)) k0 bel lt0) (trodAll_cons_mk (Below.trod laid.laidOut (by kernel_rfl) (of_decide_eq_true (by kernel_rfl)) k1 bel lt1) trodAll_mk0)), rfl, bel.frame _, fun h => by cases h⟩

set_option maxRecDepth 100000 in
theorem lifted (os : Os) (started : os.Started) (H : Type) (enc : TypeId × Value → H) (F : Stop.Interp) :
    ReturnsInHanded {} Tryz.checked os 5 .any ((OpenSpec.ofChange Rows.topForcedSpec).preRow enc Tryz.prog Tryz.f5 Rows.topForcedRow.domain false Rows.topForcedRow.laid) (((OpenSpec.ofChange Rows.topForcedSpec).at F).post enc Tryz.prog Tryz.f5 false true false false) := by
  obtain ⟨places, hx⟩ := reads os enc
  refine returnsInHanded_of_row (C := Tryz.checked) (s := OpenSpec.ofChange Rows.topForcedSpec) laid.own started (by kernel_rfl) Tryz.func5
    (witness_row_atRef (enc := enc) (C := Tryz.checked) false (laid.laidWorld os) #[.agg #[.slice none 0 0, .slice none 0 0, .slice none 0 0, .slice none 0 0], .slice none 0 0] rfl (by kernel_rfl) (by kernel_rfl) (by kernel_rfl)
      (OpenSpec.preRow_of_cond 8 hx (by kernel_rfl) (fun k hk => by cases hk) (by kernel_rfl) (laid.laid_met os _))) ?_
  intro W base args ds gs before hval hW _ _ hz hL _ _
  exact contract _ H enc W base args ds gs before hval hW hL hz

theorem said : Rows.TopForcedSaid :=
  OpenClaim.holds_of_cond 5 Tryz.f5 rfl rfl rfl rfl rfl rfl rfl ⟨rfl, rfl, rfl, rfl, rfl⟩ rfl rfl rfl rfl rfl (by kernel_rfl) Tryz.func5 (by kernel_rfl)
    (of_decide_eq_true (by kernel_rfl)) (by unfold Func.isWrapper; first | (rw [if_pos (by decide +kernel)]; kernel_rfl) | (rw [if_neg (by decide +kernel)]; exact ⟨rfl, rfl⟩))
    (fun os started H enc _ F => by rw [OpenClaim.pre_eq_preRow]; exact lifted os started H enc F)

/-- No parameter wants a stand-in; the program's own looks are off: what the card asks. -/
theorem plain (f : FuncId) (fn : Func) (hf : Tryz.pinned.checked.prog.funcNamed "pointsman/pointsmantop.TopForced" = some f) (hfn : Tryz.pinned.checked.prog.funcs[f]? = some fn) :
    true = Tryz.pinned.checked.prog.looks [] ∧ ∀ (j : Nat) t, fn.params[j]? = some t → Tryz.pinned.checked.prog.wantsStandIn t = false := by
  obtain rfl : f = 5 := Option.some.inj ((show Tryz.prog.funcNamed "pointsman/pointsmantop.TopForced" = some 5 by kernel_rfl).symm.trans hf) |>.symm
  obtain rfl : fn = Tryz.f5 := (Option.some.inj (Tryz.func5.symm.trans hfn)).symm
  refine ⟨by kernel_rfl, fun j t ht => ?_⟩
  rw [Tryz.params5] at ht
  have h := Array.mem_of_getElem? ht
  simp only [List.mem_toArray, List.mem_cons, List.not_mem_nil, or_false] at h
  rcases h with rfl | rfl
  · exact (show Tryz.prog.wantsStandIn 26 = false by kernel_rfl)
  · exact (show Tryz.prog.wantsStandIn 27 = false by kernel_rfl)

theorem proved : Rows.TopForcedCardSaid :=
  Claim7.holds_tied_plain_at .later [] _ _ _ _ said (fun _ h => by cases h) (by kernel_rfl) (fun _ h => by cases h) topForced_row_tie rfl ⟨rfl, rfl⟩ (by kernel_rfl) rfl plain (by kernel_rfl)
#print axioms proved
end Go.Proofs.YtkplgggdidhnoaaGreatDoor.topForced
