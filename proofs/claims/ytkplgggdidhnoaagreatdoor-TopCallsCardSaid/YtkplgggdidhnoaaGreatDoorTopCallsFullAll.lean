/-
  The law TopCalls: what it answers is true. Conditions: no list, no name is longer than 281474976710656; the tables of unicode/utf8 are laid. TopCalls holds for every input, and its card. Conditions: what the card's row itself says (the tables of unicode/utf8 as the program's text lays them).
-/
import Derived.Test.YtkplgggdidhnoaaGreatDoorM35
import Derived.Test.YtkplgggdidhnoaaGreatDoorM12
import Derived.Test.YtkplgggdidhnoaaGreatDoorM17
import Derived.Test.YtkplgggdidhnoaaGreatDoorM22
namespace Go.Proofs.YtkplgggdidhnoaaGreatDoor
open Go.ChangeShapes Go.WideShapes Go.ChangeAt Go.RowKit
set_option linter.unusedVariables false

theorem own_ne {O : Nat → Prop} {w : World} {e C X T : Nat} {v : Value} {n : Nat} {xs : List Value} {cs : Array Value} (h : Own O w e C v n xs) (hX : Blk w X T cs) (hT : e ≠ T) : Own (fun g => O g ∧ g ≠ X) w e C v n xs := by
  obtain ⟨h1, h2⟩ := h
  refine ⟨h1, ?_⟩
  rcases h2 with h2 | ⟨g, cap, cur, rfl, hg, hh, h5⟩
  · exact .inl h2
  · refine .inr ⟨g, cap, cur, rfl, ⟨hg, fun e => ?_⟩, hh, h5⟩
    subst e
    have hX' : w.heap[g]? = some (.cells cs T (0, 0)) := hX
    rw [hX'] at hh
    simp only [Option.some.injEq, Obj.cells.injEq] at hh
    exact hT hh.2.1.symm

set_option maxRecDepth 100000 in
set_option maxHeartbeats 8000000 in
theorem topCalls_yes (B : Nat → Prop) (w : World) (v : Value) (L : Lay) (r : Int) (hL : LayAt B w v L) (sm : L.Small 281474976710656) (hT : Tabs w) :
    Calls Tryz.prog 4 #[v, .int .i64 r] w fun x w' => x = .returned (.bool true) ∧ Ch Noone w w' := by
  have HL := Lib.hid hL
  have HT := Lib.hid hT
  have SM := Lib.hid sm
  obtain ⟨q1, q2, q3, q4, rs, rfl, -, -, h3, h4, h5, -⟩ := hL
  have hrl : rs.length = L.routes.length := by rw [← h4]; simp
  obtain ⟨a3, c3, rfl, -, -, -, -⟩ := h3
  obtain ⟨a4, c4, rfl, -, -, -, -⟩ := h5
  have HRL := Lib.hid hrl
  rw [hrl] at HL ⊢
  clear hT sm h4 hrl
  obtain ⟨w0, hw0⟩ : ∃ w0, w0 = w.alloc (.cells #[q1, q2, .slice a3 L.sigs.length c3, .slice a4 L.routes.length c4] 26) := ⟨_, rfl⟩
  have b0 : Blk w0 w.heap.size 26 #[q1, q2, .slice a3 L.sigs.length c3, .slice a4 L.routes.length c4] := by rw [hw0]; exact Blk.new _ _ _
  have C0 : Ch Noone w w0 := by rw [hw0]; exact (Ch.refl _ _).alloc _
  have HW0 := Lib.hid hw0
  clear hw0
  go_enter Tryz.func4, Tryz.ntmps4
  go_wp2_with fail
  rw [← HW0.out]
  refine (size_ok B _ _ L (HL.out.ch0 C0) SM.out).mono ?_
  rintro e w1 ⟨n, rfl, hn, c1⟩
  have HN := Lib.hid hn; clear hn
  have C1 := C0.trans c1
  have b1 := c1.blk b0 (fun h => h)
  clear b0 C0 c1
  obtain ⟨l0, l1, l2, l3⟩ := Blk.cells4 b1
  by_cases h3 : n < 3000
  case neg =>
    have h3' : 3000 ≤ n := by omega
    go_wp2_with fail
    go_ret
    exact ⟨rfl, C1⟩
  have HNm := Lib.hid (HN.out h3); clear HN
  go_wp2_with fail
  refine (is_ref B _ _ L (HL.out.ch0 C1) (HT.out.ch0 C1) (fun s h => by have := HNm.out.s1 s h; omega) (fun s h => by have := HNm.out.s2 s h; omega) (fun s h => by have := HNm.out.s3 s h; omega) (fun s h => by have := HNm.out.s4 s h; omega)).mono ?_
  rintro e w2 ⟨bi, rfl, hb, c2⟩
  have C2 := C1.trans c2
  have b2 := c2.blk b1 (fun h => h)
  clear c2 b1 l0 l1 l2 l3 C1
  obtain ⟨l0, l1, l2, l3⟩ := Blk.cells4 b2
  have HB2 := Lib.hid b2
  have C2h := Lib.hid C2
  cases bi
  case false =>
    go_wp2_with fail
    go_ret
    exact ⟨rfl, C2h.out⟩
  have OK := Lib.hid (hb (by trivial))
  clear hb b2 C2
  by_cases hr0 : r < 0
  case pos =>
    go_wp2_with fail
    go_ret
    exact ⟨rfl, C2h.out⟩
  have hr0' : 0 ≤ r := by omega
  obtain ⟨r, rfl⟩ := Int.eq_ofNat_of_zero_le hr0'
  clear hr0
  by_cases hr1 : (L.routes.length : Int) ≤ r
  case pos =>
    go_wp2_with fail
    go_ret
    exact ⟨rfl, C2h.out⟩
  have hr1' : (r : Int) < L.routes.length := by omega
  have hr : r < L.routes.length := by omega
  clear hr1
  have hro := OK.out.route _ (List.getElem_mem hr)
  obtain ⟨fr, hfr⟩ : ∃ fr : Nat, L.routes[r].frm = fr := ⟨L.routes[r].frm.toNat, by have := hro.f0; omega⟩
  have hfr1 : fr < L.sigs.length := by have := hro.f1; omega
  obtain ⟨b4, off4, c4', -, -, -, e4, -, -, hbw4, -, a1, -⟩ := HL.out.route hr
  simp only [Value.slice.injEq] at e4
  obtain ⟨rfl, -, rfl⟩ := e4
  rw [hfr] at a1
  have HRt : Hid (∀ W', Ch Noone w W' → W'.cell? ⟨b4, off4 + r * 6 + 1, none⟩ = some (.int .i64 fr)) := fun W' c => (c.rd hbw4 _).trans a1
  have HFr : Hid (L.routes[r].frm.toNat = fr) := by unfold Hid; rw [hfr]; rfl
  clear hro hfr a1 hbw4
  go_wp2_with fail
  clear l0 l1 l2 l3
  refine (pair_new B w2 _ L (HL.out.ch0 C2h.out) OK.out (HT.out.ch0 C2h.out)).mono ?_
  rintro x w3 ⟨m, p, pa0, pa1, rr, pk, pf, psf, rfl, hp, hm, c3⟩
  have hlt : w.heap.size < w2.heap.size := HB2.out.lt
  have HP3 := Lib.hid hp
  have HM3 : Hid (∀ g, g < w2.heap.size → m g = 9) := hm
  have HB3 := Lib.hid (c3.blk HB2.out (fun h => h))
  have C3h : Hid (Ch Noone w w3) := C2h.out.trans c3
  have HLow : Hid (∀ g, g < w.heap.size → m g ≤ 6 → False) := fun g hg h => by rw [HM3.out g (by omega)] at h; omega
  have HX9 : Hid (m w.heap.size = 9) := HM3.out _ hlt
  clear hp hm c3 HB2
  go_wp2_with fail
  go_loopw [7] (fun i wr => ∃ (j : Nat) (mq : Nat → Nat) (ps : PS), j ≤ 10 ∧ i = .int .i64 j ∧
    Hid (Agree w3 m mq) ∧ Hid (PairP mq wr p pa0 pa1 rr pk pf psf L ps) ∧ Hid (Ch (Mine m) w3 wr) ∧ Hid (ps.Inv j ∧ (j = 0 → ps = PS.new L) ∧ (1 ≤ j → ps.Wait L j))) (fun i _ => (10 - intOf i).toNat)
  case atStart => exact ⟨0, m, PS.new L, by omega, rfl, Agree.refl _ _, HP3.out, Ch.refl _ _, PS.J.new L, fun _ => rfl, fun h => by omega⟩
  case round =>
    obtain ⟨j, mq, ps, hj, rfl, HA, HP, HCh, HI⟩ := hrel
    by_cases hjl : j < 10
    · have HCy := Lib.hid (cycle_inv (.slice none 0 0) [] (Sl.nil _ _) HP.out OK.out HI.out.1 (by omega) (by omega))
      have hj10 : (j : Int) < 10 := by omega
      go_wp2_with fail
      refine HCy.out.mono ?_
      rintro x w6 ⟨v1, v2, m6, ps6, d, q, rfl, ho6, a6, hp6, c6, hrun, hinv, hdl, hql, hdr⟩
      have HP6 := Lib.hid hp6
      have HA6 := Lib.hid (HA.out.trans a6 HCh.out.size)
      have hch6 : Hid (Ch (Mine m) w3 w6) := HCh.out.next HA.out c6
      have HIn : Hid (PS.Inv ((j + 1 : Nat) : Int) ps6) := by
        have e : ((j + 1 : Nat) : Int) = (j : Int) + 1 := by omega
        rw [e]
        exact hinv
      have HWt : Hid (ps6.Wait L ((j + 1 : Nat) : Int)) := by
        have e : ((j + 1 : Nat) : Int) = (j : Int) + 1 := by omega
        rw [e]
        rcases Nat.eq_zero_or_pos j with h0 | h0
        · have e0 := HI.out.2.1 h0
          rw [e0] at hrun
          subst h0
          exact wait_first hrun
        · exact wait_next HI.out.1 (by omega) (by omega) (HI.out.2.2 h0) hrun
      clear ho6 a6 hp6 c6 hrun hinv hdl hql hdr
      go_wp2_with fail
      go_roundw
      case rel => exact ⟨j + 1, m6, ps6, by omega, by go_num, HA6.out, HP6.out, hch6.out, HIn.out, fun h => by omega, fun _ => HWt.out⟩
      case measure => simp [intOf]; omega
    · have hj10 : j = 10 := by omega
      subst hj10
      have CW : Hid (Ch Noone w wr) := C3h.out.then HCh.out fun g hg h => HLow.out g hg h
      have HNe := Lib.hid (refNeeds_any B wr _ L r (HL.out.ch0 CW.out) OK.out hr)
      have hbx := HB3.out.keep HX9.out HCh.out HA.out
      have HBx := Lib.hid hbx.1
      obtain ⟨l0, l1, l2, l3⟩ := Blk.cells4 hbx.1
      have HW10 : Hid (ps.Wait L 10) := HI.out.2.2 (by omega)
      have HI10 : Hid (ps.Inv 10) := HI.out.1
      clear hbx hjl hj HI
      go_wp2_with fail
      refine HNe.out.mono ?_
      rintro x w7 ⟨vn, rfl, ho, c7⟩
      obtain ⟨gn, dn, rfl, -, -, -, -⟩ := id ho.sl
      have HNs := Lib.hid ho.sl
      have HNl : Hid (L.routes[r].needs.length ≤ 100) := needs_le100 OK.out hr
      have hmv0 : moves L.routes[r].needs = moves L.routes[r].needs := rfl
      have hch7 : Hid (Ch (Mine m) w3 w7) := HCh.out.then c7 fun _ _ h => h.elim
      have HP7 := Lib.hid (HP.out.pure c7)
      have HA7 : Hid (Agree w3 m (lab mq wr.heap.size 9)) := HA.out.trans (Agree.lab wr mq 9) HCh.out.size
      generalize lab mq wr.heap.size 9 = m7 at *
      have HB7 := Lib.hid (c7.blk HBx.out (fun h => h))
      have C7 : Hid (Ch Noone w w7) := CW.out.trans c7
      obtain ⟨mv, hmv⟩ : ∃ mv, mv = moves L.routes[r].needs := ⟨_, rfl⟩
      have HMv := Lib.hid hmv
      obtain ⟨nn, hnn⟩ : ∃ nn, nn = L.routes[r].needs := ⟨_, rfl⟩
      rw [← hnn] at HNs HNl hmv ⊢
      clear hmv0 hnn ho c7 HCh HP HA HBx CW HNe l0 l1 l2 l3
      go_wp2_with fail
      go_loop [8, 10] (fun x i => ∃ (k : Nat), k ≤ nn.length ∧ i = .int .i64 k ∧ x = .bool (moves (nn.take k))) (fun _ i => (nn.length - intOf i).toNat)
      case atStart => exact ⟨0, by omega, rfl, rfl⟩
      case round =>
        obtain ⟨k, hk, rfl, rfl⟩ := hrel
        by_cases hkl : k < nn.length
        · obtain ⟨b, off, rfl, -, -, hat⟩ := HNs.out.at (f := fNeed) (C := 2) (fun _ => rfl) (by omega) hkl
          have y1 : w7.cell? ⟨b, off + k * 2 + 1, none⟩ = some (.bool nn[k].rev) := hat 1 (by omega)
          have HSn := Lib.hid (moves_snoc nn k hkl)
          clear hat
          generalize nn[k].rev = rv at *
          generalize moves (nn.take k) = mk at *
          have hn100 := HNl.out
          have hk1 : (k : Int) < nn.length := by omega
          cases mk
          · go_wp2_with fail
            go_round
            case rel => exact ⟨k + 1, by omega, by go_num, by rw [HSn.out]; simp⟩
            case measure => simp [intOf]; omega
          · go_wp2_with fail
            go_round
            case rel => exact ⟨k + 1, by omega, by go_num, by rw [HSn.out]; simp⟩
            case measure => simp [intOf]; omega
        · have hk2 : k = nn.length := by omega
          subst hk2
          rw [List.take_length, ← hmv]
          clear hk hkl hmv
          have hev : ∀ (w' : World) (g : Nat), Blk w' g 52 #[.int .i64 8, .int .i64 0, .int .i64 0, .int .i64 1, .int .i64 r] → Sl (fun x => x = g) w' (.slice (some ⟨g, 0, none⟩) 1 1) ([(⟨8, 0, 0, 1, r⟩ : Ev)]).length ([(⟨8, 0, 0, 1, r⟩ : Ev)].flatMap fEv) := fun w' g hb => by
            refine ⟨_, _, rfl, Nat.le_refl _, by omega, (fun h => by cases h), fun _ => ⟨g, 0, rfl, rfl, hb.lt, fun i hi => ?_⟩⟩
            rw [Nat.zero_add, hb.cell i]
            simp [fEv]
          have HEv := Lib.hid hev
          clear hev
          obtain ⟨w8, hw8⟩ : ∃ w8, w8 = w7.alloc (.cells #[.int .i64 8, .int .i64 0, .int .i64 0, .int .i64 1, .int .i64 r] 52) := ⟨_, rfl⟩
          have c8 : Ch Noone w7 w8 := by rw [hw8]; exact (Ch.refl _ _).alloc _
          have HE8 := HEv.out w8 w7.heap.size (by rw [hw8]; exact Blk.new _ _ _)
          have HP8 := Lib.hid (HP7.out.pure c8)
          have HA8 : Hid (Agree w3 m (lab m7 w7.heap.size 9)) := HA7.out.trans (Agree.lab w7 m7 9) hch7.out.size
          have HE9 : Sl (fun g => lab m7 w7.heap.size 9 g = 9) w8 (.slice (some ⟨w7.heap.size, 0, none⟩) 1 1) ([(⟨8, 0, 0, 1, r⟩ : Ev)]).length ([(⟨8, 0, 0, 1, r⟩ : Ev)].flatMap fEv) := HE8.mono fun g hg _ => by rw [hg]; exact lab_ge (Nat.le_refl _)
          have hch8 : Hid (Ch (Mine m) w3 w8) := hch7.out.then c8 fun _ _ h => h.elim
          have HB8 := Lib.hid (c8.blk HB7.out (fun h => h))
          generalize lab m7 w7.heap.size 9 = m8 at *
          have HCy := Lib.hid (cycle_inv _ _ HE9 HP8.out OK.out HI10.out (by omega) (by omega))
          have HW8 := Lib.hid hw8
          clear HE8 HE9 hw8 c8 HEv hch7 HP7 HA7 HB7
          go_wp2_with fail
          rw [← HW8.out]
          refine HCy.out.mono ?_
          rintro x w9 ⟨v1, v2, m9, ps9, d, q, rfl, ho9, a9, hp9, c9, hrun, hinv, hdl, hql, hdr⟩
          obtain ⟨z1, z2, e, hd, hpq⟩ := ho9
          cases e
          obtain ⟨e1, f1, rfl, -, -, -, -⟩ := hd.sl
          have hq9 := hpq.sl
          obtain ⟨e2, f2, rfl, -, -, -, -⟩ := hpq.sl
          rw [hql] at hq9 ⊢
          have HQl := Lib.hid hql
          have HRun := Lib.hid (call_run OK.out hr HI10.out (by omega) (by omega) HW10.out.own HW10.out.fresh (by rw [HW10.out.mode]; rfl) hrun)
          have hb9 := HB8.out.keep ((HA8.out _ (Nat.lt_of_lt_of_le HB3.out.lt (Nat.le_refl _))).trans HX9.out) c9 a9
          have hch9 : Ch (Mine m) w3 w9 := hch8.out.next HA8.out c9
          obtain ⟨w10, hw10⟩ : ∃ w10, w10 = w9.alloc (.cells #[.slice e1 d.length f1, .slice e2 L.sigs.length f2] 36) := ⟨_, rfl⟩
          have c10 : Ch Noone w9 w10 := by rw [hw10]; exact (Ch.refl _ _).alloc _
          have HO10 : Hid (Blk w10 w9.heap.size 36 #[.slice e1 d.length f1, .slice e2 L.sigs.length f2]) := by rw [hw10]; exact Blk.new _ _ _
          have HP10 := Lib.hid (hp9.pure c10)
          have HA10 : Hid (Agree w3 m (lab m9 w9.heap.size 9)) := (HA8.out.trans a9 hch8.out.size).trans (Agree.lab w9 m9 9) hch9.size
          have HB10 := Lib.hid (c10.blk hb9.1 (fun h => h))
          have hch10 : Hid (Ch (Mine m) w3 w10) := hch9.then c10 fun _ _ h => h.elim
          have HQ10 : Hid (Sl (fun g => g ≠ w9.heap.size) w10 (.slice e2 L.sigs.length f2) L.sigs.length (q.flatMap fB)) := (hq9.mono (B' := fun g => g ≠ w9.heap.size) fun g _ hl => Nat.ne_of_lt hl).ch0 c10
          have HX10 : Hid (lab m9 w9.heap.size 9 w9.heap.size = 9 ∧ w9.heap.size < w10.heap.size) := ⟨lab_ge (Nat.le_refl _), HO10.out.lt⟩
          have HXn : Hid (w.heap.size ≠ w9.heap.size ∧ w.heap.size < w9.heap.size) := by
            have h1 := HB3.out.lt
            have h2 := hch9.size
            exact ⟨by omega, by omega⟩
          have C10 : Hid (Ch Noone w w10) := C3h.out.then hch10.out fun g hg h => HLow.out g hg h
          generalize lab m9 w9.heap.size 9 = m10 at *
          have HI11 : Hid (ps9.Inv 11) := hinv
          have HW10' := Lib.hid hw10
          clear hd hpq hq9 hql hrun hinv hdl hdr a9 hp9 c9 hb9 hch9 c10 hw10 HCy HP8 HA8 HB8 hch8 HW10 HI10
          go_wp2_with fail
          rw [← HW10'.out]
          generalize w9.heap.size = X at *
          have HS0 : Hid (∀ g, g < w.heap.size + 1 → ¬ (Mine m10 g ∨ g = X)) := fun g hg h => by
            rcases h with h | h
            · have h' : m10 g ≤ 6 := h
              have h3 := HB3.out.lt
              rw [HA10.out g (by omega), HM3.out g (by omega)] at h'
              omega
            · have := HXn.out.2
              omega
          go_loopw [12] (fun i wr => ∃ (k : Nat) (mq : Nat → Nat) (ps : PS) (e1 : Option Addr) (n1 f1 : Nat) (e2 : Option Addr) (f2 : Nat) (q : List Bool), k ≤ 3 ∧ i = .int .i64 k ∧
            Hid (Agree w10 m10 mq) ∧ Hid (PairP mq wr p pa0 pa1 rr pk pf psf L ps) ∧ Hid (Ch (fun g => Mine m10 g ∨ g = X) w10 wr) ∧ Hid (Blk wr X 36 #[.slice e1 n1 f1, .slice e2 L.sigs.length f2]) ∧
            Hid (Sl (fun g => g ≠ X) wr (.slice e2 L.sigs.length f2) L.sigs.length (q.flatMap fB)) ∧ Hid (q.length = L.sigs.length) ∧
            Hid (ps.Inv ((11 + k : Nat) : Int) ∧ ps.Own0 ((11 + k : Nat) : Int) ∧ (mv = false ∨ k = 3 → q.getD fr false = true) ∧ (mv = true → k < 3 → q = List.replicate L.sigs.length false ∧ ps.Called L r (k + 1)) ∧ (mv = false → k = 0))) (fun i _ => (3 - intOf i).toNat)
          case atStart =>
            exact ⟨0, m10, ps9, e1, d.length, f1, e2, f2, q, by omega, rfl, Agree.refl _ _, HP10.out, Ch.refl _ _, HO10.out, HQ10.out, HQl.out, HI11.out, HRun.out.1, fun h => by
              rcases h with h | h
              · have := HRun.out.2.1 (HMv.out.symm.trans h); rw [HFr.out] at this; exact this
              · omega, fun h _ => HRun.out.2.2 (HMv.out.symm.trans h), fun _ => rfl⟩
          case round =>
            clear HRun HI11 HP10 HO10 HQ10 HQl ps9 q
            obtain ⟨k, mq, ps, e1, n1, f1, e2, f2, q, hk, rfl, HA, HP, HCh, HX, HQ, HQl, HI⟩ := hrel
            have CW : Hid (Ch Noone w wr) := C10.out.then HCh.out fun g hg h => HS0.out g (by omega) h
            have hfq : fr < q.length := by rw [HQl.out]; exact hfr1
            obtain ⟨b2, off2, rfl, -, -, hat⟩ := HQ.out.at (f := fB) (C := 1) (fun _ => rfl) (by omega) hfq
            have y0 : wr.cell? ⟨b2, off2 + fr, none⟩ = some (.bool q[fr]) := by have := hat 0 (by omega); rw [Nat.mul_one] at this; exact this
            obtain ⟨l0, l1, l2, l3⟩ := Blk.cells4 (Ch.blk HCh.out HB10.out (HS0.out _ (by omega)))
            have rt := HRt.out wr CW.out
            have x0 := HX.out.cell 0
            have x1 := HX.out.cell 1
            have hf1 : (fr : Int) < L.sigs.length := by omega
            clear hat
            by_cases hgo : mv = true ∧ k < 3
            · obtain ⟨hgo1, hgo2⟩ := hgo
              have HCl := Lib.hid (HI.out.2.2.2.1 hgo1 hgo2)
              have hqf : q[fr] = false := by
                have e := HCl.out.1
                subst e
                exact List.getElem_replicate ..
              rw [hqf] at y0
              have HMt : Hid (moves L.routes[r].needs = true) := HMv.out.symm.trans hgo1
              have HCy : Hid (∀ nq, _) := fun nq => cycle_inv (.slice none 0 0) [] (Sl.nil _ _) (HP.out.drewN nq) OK.out HI.out.1 (by omega) (by omega)
              have hk3 : (k : Int) < 3 := by omega
              clear hqf hfq HMv
              subst hgo1
              go_wp2_with fail
              go_quiet (fail)
              go_wp2_with fail
              refine (HCy.out _).mono ?_
              rintro x w6 ⟨v1, v2, m6, ps6, d6, q6, rfl, ho6, a6, hp6, c6, hrun, hinv, hdl, hql, hdr⟩
              have cd : Ch Noone wr (wr.drewN nq) := (Ch.refl _ _).drewN nq
              have hxm : mq X = 9 := (HA.out _ HX10.out.2).trans HX10.out.1
              have hx6 := (cd.blk HX.out (fun h => h)).keep hxm c6 a6
              obtain ⟨z1, z2, e, hd, hpq⟩ := ho6
              cases e
              obtain ⟨e6, g6, rfl, -, -, -, -⟩ := hd.sl
              have hq6 := (own_ne hpq hx6.1 (by decide)).sl
              obtain ⟨e7, g7, rfl, -, -, -, -⟩ := hpq.sl
              rw [hql] at hq6 ⊢
              have HNx := Lib.hid (called_next OK.out hr HI.out.1 (by omega) (by omega) HI.out.2.1 HCl.out.2 (by omega) hrun)
              have HX6 := Lib.hid hx6.1
              have HM6 := Lib.hid hx6.2
              have HP6 := Lib.hid hp6
              have HQ6 := Lib.hid hq6
              have HQl6 := Lib.hid hql
              have HIn := Lib.hid hinv
              have HA6 : Hid (Agree w10 m10 m6) := HA.out.trans a6 (Nat.le_trans HCh.out.size cd.size)
              have HCh6 : Hid (Ch (fun g => Mine m10 g ∨ g = X) w10 w6) := (HCh.out.then cd fun _ _ h => h.elim).then c6 fun g hg h => by
                have h' : mq g ≤ 6 := h
                rw [HA.out g hg] at h'
                exact .inl h'
              have xc0 := hx6.1.cell 0
              have xc1 := hx6.1.cell 1
              have fr0 := hx6.1.free 0
              have fr1 := hx6.1.free 1
              have cs : Ch (fun g => g = X) w6 ((w6.setCell ⟨X, 0, none⟩ (.slice e6 d6.length g6)).setCell ⟨X, 1, none⟩ (.slice e7 L.sigs.length g7)) := ((Ch.refl _ _).set1 _ _).set1 _ _
              have HX7 := Lib.hid (show Blk ((w6.setCell ⟨X, 0, none⟩ (.slice e6 d6.length g6)).setCell ⟨X, 1, none⟩ (.slice e7 L.sigs.length g7)) X 36 #[.slice e6 d6.length g6, .slice e7 L.sigs.length g7] by have := (HX6.out.set 0 (.slice e6 d6.length g6)).set 1 (.slice e7 L.sigs.length g7); simpa using this)
              have HP7 := Lib.hid (HP6.out.pure9 (cs.mono fun g _ e => by rw [e]; exact HM6.out))
              have HCh7 : Hid (Ch (fun g => Mine m10 g ∨ g = X) w10 _) := HCh6.out.then cs fun _ _ h => .inr h
              have HQ7 : Hid (Sl (fun g => g ≠ X) _ (.slice e7 L.sigs.length g7) L.sigs.length (q6.flatMap fB)) := (hq6.mono (B' := fun g => g ≠ X) fun g hg _ => hg.2).ch cs fun g hg _ => hg
              have HA7 : Hid (Agree w10 m10 (lab m6 w6.heap.size 9)) := HA6.out.trans (Agree.lab w6 m6 9) HCh6.out.size
              have HF7 : Hid (ps6.Inv ((11 + (k + 1) : Nat) : Int) ∧ ps6.Own0 ((11 + (k + 1) : Nat) : Int) ∧ (true = false ∨ k + 1 = 3 → q6.getD fr false = true) ∧ (true = true → k + 1 < 3 → q6 = List.replicate L.sigs.length false ∧ ps6.Called L r (k + 1 + 1)) ∧ (true = false → k + 1 = 0)) := by
                have e : ((11 + (k + 1) : Nat) : Int) = ((11 + k : Nat) : Int) + 1 := by omega
                rw [e]
                refine ⟨hinv, HNx.out.1, fun h => ?_, fun _ h => HNx.out.2.2 HMt.out (by omega), fun h => by cases h⟩
                have := HNx.out.2.1 (by rcases h with h | h; cases h; exact h)
                rw [HFr.out] at this
                exact this
              clear cs
              clear hd hpq hq6 hql hrun hinv hdl hdr a6 hp6 c6 cd hx6 hxm HCy HP HCh HQ HX HQl l0 l1 l2 l3 x0 x1 y0 rt CW HA
              go_wp2_with fail
              go_roundw
              case rel => exact ⟨k + 1, _, ps6, e6, d6.length, g6, e7, g7, q6, by omega, by go_num, HA7.out, HP7.out, HCh7.out, HX7.out, HQ7.out, HQl6.out, HF7.out⟩
              case measure => simp [intOf]; omega
            · have hex : (mv = false ∧ k < 3) ∨ k = 3 := by
                by_cases h3 : k < 3
                · exact .inl ⟨by cases hmvb : mv; rfl; exact absurd ⟨hmvb, h3⟩ hgo, h3⟩
                · exact .inr (by omega)
              have hqt : q[fr] = true := by
                have e : q.getD fr false = true := HI.out.2.2.1 (by
                  rcases hex with h | h
                  · exact .inl h.1
                  · exact .inr h)
                rw [List.getD_eq_getElem?_getD, List.getElem?_eq_getElem hfq] at e
                exact e
              rw [hqt] at y0
              have HKn := Lib.hid (known_yes wr.drew (HT.out.ch0 CW.out.drew))
              clear hgo hqt hfq
              rcases hex with ⟨rfl, hk3⟩ | rfl
              · have hk3' : (k : Int) < 3 := by omega
                go_wp2_with fail
                go_still_tail 20, (by kernel_rfl)
                change wpList _ _ _ _ _ wr.drew
                go_wp2_with fail
                refine HKn.out.mono ?_
                rintro x w12 ⟨rfl, c12⟩
                go_wp2_with fail
                go_ret
                exact ⟨rfl, CW.out.drew.trans c12⟩
              · go_wp2_with fail
                go_still_tail 20, (by kernel_rfl)
                change wpList _ _ _ _ _ wr.drew
                go_wp2_with fail
                refine HKn.out.mono ?_
                rintro x w12 ⟨rfl, c12⟩
                go_wp2_with fail
                go_ret
                exact ⟨rfl, CW.out.drew.trans c12⟩
end Go.Proofs.YtkplgggdidhnoaaGreatDoor

namespace Go.Proofs.YtkplgggdidhnoaaGreatDoor.topCalls
open Go.ChangeShapes Go.WideShapes Go.ChangeAt Go.RowKit
set_option linter.unusedVariables false

theorem reads (os : Os) {H : Type} (enc : TypeId × Value → H) : ∃ places, DataW.whole enc Tryz.prog ((laid.laidWorld os).forCall (fun _ _ => 0) ⟨#[], #[.agg #[.slice none 0 0, .slice none 0 0, .slice none 0 0, .slice none 0 0], .int .i64 0], []⟩).memory Tryz.f4.params.toList Rows.topCallsSpec.vars false #[Value.agg #[.slice none 0 0, .slice none 0 0, .slice none 0 0, .slice none 0 0], .int .i64 0].toList 8 = some ([.agg [.nil, .nil, .nil, .nil], .lit (.int .i64 0)], [], places) :=
  ⟨[], by kernel_rfl⟩

set_option maxRecDepth 100000 in
theorem contract (V : List TypeId) (H : Type) (enc : TypeId × Value → H) (W : World) (base : Nat) (args : Array Value) (ds gs : List (DataW H)) (before : List MemPlace)
    (hval0 : ∀ (j : Nat) t v, Tryz.f4.params[j]? = some t → args[j]? = some v → Value.okWide Tryz.prog W .any base t v)
    (hW : DataW.Whole enc Tryz.prog Tryz.f4.params.toList Rows.topCallsSpec.vars false W args.toList ds gs before) (hL : laidMet Tryz.prog laid.lst W) (hz : (DataW.weightsEach Tryz.prog (Tryz.f4.params.toList ++ V) (ds ++ gs)).all (· ≤ reachBytes) = true) :
    Calls Tryz.prog 4 args W fun e W' => ∃ v, e = .returned v ∧ Rows.topCallsSpec.post enc Tryz.prog Tryz.f4 false true false false W args v W' := by
  have hval : ∀ (j : Nat) t v, Tryz.f4.params[j]? = some t → args[j]? = some v → Value.okWide Tryz.prog W .any base t v := hval0
  have hW' := hW
  obtain ⟨p, q, hA0, hV, rfl, hfz, hnd⟩ := hW
  have hA : DataW.TrodAll enc Tryz.prog W 0 (fun _ => true) true Tryz.f4.params.toList args.toList ds p := hA0
  rw [Tryz.params4] at hA hval hz
  obtain ⟨v0, vs0, d0, ds0, p0, q0, hargs, rfl, rfl, h0, r0⟩ := trodAll_cons hA
  obtain ⟨v1, vs1, d1, ds1, p1, q1, rfl, rfl, rfl, h1, r1⟩ := trodAll_cons r0
  obtain ⟨rfl, rfl, rfl⟩ := trodAll_nil r1
  obtain rfl : args = #[v0, v1] := by cases args; simp_all
  obtain ⟨rfl, rfl⟩ := trodVars_none hV
  have k0 := h0
  have k1 := h1
  have lt0 : ∀ x ∈ p0, x.block < W.heap.size := by obtain ⟨m, hm⟩ := k0; exact DataW.trod_lt m _ _ _ hm
  have lt1 : ∀ x ∈ p1, x.block < W.heap.size := by obtain ⟨m, hm⟩ := k1; exact DataW.trod_lt m _ _ _ hm
  obtain ⟨a1, rfl, _, _, w1⟩ := open_int Tryz.underlying3 (hval 1 3 v1 rfl rfl) h1
  obtain ⟨cs0, rfl, hcs⟩ := okWide_struct Tryz.underlying26 (hval 0 26 v0 rfl rfl)
  obtain ⟨f0, hf0⟩ := h0
  obtain ⟨L, hlay, hsm⟩ := open_layw f0 _ _ hf0 fun n hn => by
    have h := List.all_eq_true.1 hz n (DataW.weights_mem_each (j := 0) (t := 26) rfl rfl n hn)
    have h2 : n ≤ reachBytes := by simpa using h
    exact Nat.le_trans h2 (by decide)
  have hlay' : LayAt (fun g => g < W.heap.size) W (.agg cs0) L := by simpa [Value.cells] using hlay
  clear hA0 hval0 hlay hcs hz
  refine (topCalls_yes _ W _ L a1 hlay' hsm (laid.tabs hL)).mono fun e W' ⟨he, hc⟩ => ?_
  subst he
  have bel : Below W.heap.size W W' := hc.below (Nat.le_refl _) (fun _ _ h => h)
  exact ⟨_, rfl, _, _, _, [], _, [], hW', trodAll_mk1 (shut_bool Tryz.underlying4 _), (trodAll_cons_mk (Below.trod laid.laidOut (by kernel_rfl) (of_decide_eq_true (by kernel_rfl)) k0 bel lt0) (trodAll_cons_mk (Below.trod laid.laidOut (by kernel_rfl) (of_decide_eq_true (by kernel_rfl)) k1 bel lt1) trodAll_mk0)), rfl, bel.frame _, fun h => by cases h⟩

set_option maxRecDepth 100000 in
theorem lifted (os : Os) (started : os.Started) (H : Type) (enc : TypeId × Value → H) (F : Stop.Interp) :
    ReturnsInHanded {} Tryz.checked os 4 .any ((OpenSpec.ofChange Rows.topCallsSpec).preRow enc Tryz.prog Tryz.f4 Rows.topCallsRow.domain false Rows.topCallsRow.laid) (((OpenSpec.ofChange Rows.topCallsSpec).at F).post enc Tryz.prog Tryz.f4 false true false false) := by
  obtain ⟨places, hx⟩ := reads os enc
  refine returnsInHanded_of_row (C := Tryz.checked) (s := OpenSpec.ofChange Rows.topCallsSpec) laid.own started (by kernel_rfl) Tryz.func4
    (witness_row_atRef (enc := enc) (C := Tryz.checked) false (laid.laidWorld os) #[.agg #[.slice none 0 0, .slice none 0 0, .slice none 0 0, .slice none 0 0], .int .i64 0] rfl (by kernel_rfl) (by kernel_rfl) (by kernel_rfl)
      (OpenSpec.preRow_of_cond 8 hx (by kernel_rfl) (fun k hk => by cases hk) (by kernel_rfl) (laid.laid_met os _))) ?_
  intro W base args ds gs before hval hW _ _ hz hL _ _
  exact contract _ H enc W base args ds gs before hval hW hL hz

theorem said : Rows.TopCallsSaid :=
  OpenClaim.holds_of_cond 4 Tryz.f4 rfl rfl rfl rfl rfl rfl rfl ⟨rfl, rfl, rfl, rfl, rfl⟩ rfl rfl rfl rfl rfl (by kernel_rfl) Tryz.func4 (by kernel_rfl)
    (of_decide_eq_true (by kernel_rfl)) (by unfold Func.isWrapper; first | (rw [if_pos (by decide +kernel)]; kernel_rfl) | (rw [if_neg (by decide +kernel)]; exact ⟨rfl, rfl⟩))
    (fun os started H enc _ F => by rw [OpenClaim.pre_eq_preRow]; exact lifted os started H enc F)

/-- No parameter wants a stand-in; the program's own looks are off: what the card asks. -/
theorem plain (f : FuncId) (fn : Func) (hf : Tryz.pinned.checked.prog.funcNamed "pointsman/pointsmantop.TopCalls" = some f) (hfn : Tryz.pinned.checked.prog.funcs[f]? = some fn) :
    true = Tryz.pinned.checked.prog.looks [] ∧ ∀ (j : Nat) t, fn.params[j]? = some t → Tryz.pinned.checked.prog.wantsStandIn t = false := by
  obtain rfl : f = 4 := Option.some.inj ((show Tryz.prog.funcNamed "pointsman/pointsmantop.TopCalls" = some 4 by kernel_rfl).symm.trans hf) |>.symm
  obtain rfl : fn = Tryz.f4 := (Option.some.inj (Tryz.func4.symm.trans hfn)).symm
  refine ⟨by kernel_rfl, fun j t ht => ?_⟩
  rw [Tryz.params4] at ht
  have h := Array.mem_of_getElem? ht
  simp only [List.mem_toArray, List.mem_cons, List.not_mem_nil, or_false] at h
  rcases h with rfl | rfl
  · exact (show Tryz.prog.wantsStandIn 26 = false by kernel_rfl)
  · exact (show Tryz.prog.wantsStandIn 3 = false by kernel_rfl)

theorem proved : Rows.TopCallsCardSaid :=
  Claim7.holds_tied_plain_at .later [] _ _ _ _ said (fun _ h => by cases h) (by kernel_rfl) (fun _ h => by cases h) topCalls_row_tie rfl ⟨rfl, rfl⟩ (by kernel_rfl) rfl plain (by kernel_rfl)
#print axioms proved
end Go.Proofs.YtkplgggdidhnoaaGreatDoor.topCalls
