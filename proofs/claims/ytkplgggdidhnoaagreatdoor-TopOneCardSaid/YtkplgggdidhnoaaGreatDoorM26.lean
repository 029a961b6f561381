/-
  lock: drives: what points are driven. Conditions: sizes. lock: Cycle: how routes stand next, and what the field is told. Conditions: sizes.
-/
import Derived.Test.YtkplgggdidhnoaaGreatDoorM25
import Derived.Test.YtkplgggdidhnoaaGreatDoorM16
namespace Go.Proofs.YtkplgggdidhnoaaGreatDoor
open Go.ChangeShapes Go.WideShapes Go.ChangeAt Go.RowKit
set_option linter.unusedVariables false

theorem RSOk.later {R : Route} {x : RS} (h : RSOk R x) {m : Int} (hm : m ≤ 8) (h3 : x.mode ≠ 3) : RSOk R (x.later m) := by
  unfold RS.later
  split
  · exact RSOk.idle _
  · exact ⟨by have := h.1; show 0 ≤ x.timer + 1; omega, by show x.timer + 1 ≤ 8; omega, fun e => absurd e h3⟩
theorem RSOk.usedOk {R : Route} {x : RS} (h0 : 0 ≤ x.timer) (h1 : x.timer ≤ 8) (g0 : 0 ≤ x.gone) (path : List Int) (occ : List Bool) (hp : path = R.path := by rfl) : RSOk R (x.used path occ) := by
  have key : ∀ y : RS, 0 ≤ y.timer → y.timer ≤ 8 → 0 ≤ y.gone → RSOk R (if (path.length : Int) ≤ y.gone then RS.idle else y) := fun y a1 a2 a3 => by
    split
    · exact RSOk.idle _
    · rename_i hlt
      exact ⟨a1, a2, fun _ => ⟨a3, by rw [← hp]; omega⟩⟩
  unfold RS.used
  dsimp only
  split
  · exact key _ h0 h1 g0
  · split
    · exact key _ h0 h1 (by show 0 ≤ x.gone + 1; omega)
    · exact key _ h0 h1 g0
theorem RSOk.step {R : Route} {x : RS} (h : RSOk R x) (hp : 0 < R.path.length) (occ : List Bool) (lies : List Int) : RSOk R (x.step R occ lies) := by
  unfold RS.step
  split
  · split
    · exact RSOk.lock _
    · rename_i e _; exact h.later (by omega) (by rw [e]; decide)
  · split
    · rename_i e
      split
      · exact ⟨by decide, by decide, fun _ => ⟨by decide, by show (0 : Int) < R.path.length; omega⟩⟩
      · split
        · rename_i e4; exact h.later (by omega) (by rw [e4]; decide)
        · exact h
    · split
      · rename_i e3
        obtain ⟨h0, h1, h2⟩ := h
        obtain ⟨g0, g1⟩ := h2 e3
        exact RSOk.usedOk h0 h1 g0 _ _
      · exact h

/-- The points of needs that do not lie so, driven. -/
def drv (lies : List Int) (ns : List Need) (d : List Int) : List Int := ns.foldl (fun d n => if lieB lies n = true then d else d.set n.pt.toNat (posOf n)) d
/-- Route r alone is not Idle; it is Setting; no train is there. -/
def Only (rs : List RS) (occ : List Bool) (r : Nat) : Prop := (∃ h : r < rs.length, rs[r].mode = 1) ∧ (∀ (k : Nat) (h : k < rs.length), k ≠ r → rs[k].mode = 0) ∧ ∀ x ∈ occ, x = false
/-- What is driven by the routes ahead of k. -/
structure Drv (L : Lay) (rs : List RS) (occ : List Bool) (lies : List Int) (d : List Int) (k : Nat) (d' : List Int) : Prop where
  len : d'.length = d.length
  rng : (∀ x ∈ d, 0 ≤ x ∧ x ≤ 2) → ∀ x ∈ d', 0 ≤ x ∧ x ≤ 2
  no : (∀ x ∈ rs, x.mode ≠ 1) → d' = d
  only : ∀ (r : Nat) (h : r < L.routes.length), Only rs occ r → d' = if r < k then drv lies L.routes[r].needs d else d

theorem posOf_rng (n : Need) : 0 ≤ posOf n ∧ posOf n ≤ 2 := by unfold posOf; split <;> omega
theorem set_rng {d : List Int} (h : ∀ x ∈ d, 0 ≤ x ∧ x ≤ 2) (i : Nat) {y : Int} (hy : 0 ≤ y ∧ y ≤ 2) : ∀ x ∈ d.set i y, 0 ≤ x ∧ x ≤ 2 := fun x hx => by
  rcases List.mem_or_eq_of_mem_set hx with h' | h'
  · exact h x h'
  · rw [h']; exact hy
theorem drv_snoc (lies : List Int) (ns : List Need) (k : Nat) (hk : k < ns.length) (d : List Int) : drv lies (ns.take (k + 1)) d = if lieB lies ns[k] = true then drv lies (ns.take k) d else (drv lies (ns.take k) d).set ns[k].pt.toNat (posOf ns[k]) := by
  unfold drv
  rw [List.take_succ_eq_append_getElem hk, List.foldl_append]
  rfl
theorem drv_len (lies : List Int) : ∀ (ns : List Need) (d : List Int), (drv lies ns d).length = d.length
  | [], d => rfl
  | n :: ns, d => by
    show (drv lies ns _).length = _
    rw [drv_len lies ns]
    show (if lieB lies n = true then d else d.set n.pt.toNat (posOf n)).length = _
    split
    · rfl
    · simp

theorem Ch.own2 {e C n : Nat} {O : Nat → Prop} {w w' : World} {v : Value} {xs : List Value} {a : Option Addr} {m c : Nat} (h : Own O w e C v n xs) (c : Ch (fun g => v.ownBlock = some g) w w') : ∀ g, v.ownBlock = some g → O g ∧ g < w.heap.size := by
  intro g hg
  obtain ⟨_, h2⟩ := h
  rcases h2 with ⟨rfl, _⟩ | ⟨b, cap, cur, rfl, hb, hh, _⟩
  · simp [Value.ownBlock] at hg
  · simp only [Value.ownBlock, Option.some.injEq] at hg
    subst hg
    exact ⟨hb, lt_of_heap hh⟩
theorem Own.blkOf {e C n : Nat} {O : Nat → Prop} {w : World} {v : Value} {xs : List Value} (h : Own O w e C v n xs) : ∀ g, v.ownBlock = some g → O g ∧ g < w.heap.size := fun g hg => Ch.own2 (a := none) (m := 0) (c := 0) h (Ch.refl _ _) g hg

set_option maxRecDepth 100000 in
set_option maxHeartbeats 8000000 in
theorem drives_any (O B P : Nat → Prop) (w : World) (b : Nat) (L : Lay) (rs : List RS) (v : Value) (occ : List Bool) (lies : List Int) (dv pv : Value) (d : List Int) (h : LockAt O w b L rs) (ok : LayOk L) (hI : InR B w v occ lies) (ho : occ.length = L.secs.length) (hl : lies.length = L.pts.length)
    (hd : Own P w 3 1 dv d.length (d.flatMap fInt)) (hdl : d.length = L.pts.length) (hP : ∀ g, P g → ¬ O g ∧ ¬ B g) :
    Calls Tryz.prog 151 #[.pointer (some ⟨b, 0, none⟩), v, .agg #[dv, pv]] w fun e w' => e = .returned (.tuple #[]) ∧ (∃ d', Drv L rs occ lies d rs.length d' ∧ Own P w' 3 1 dv d'.length (d'.flatMap fInt)) ∧ Ch (fun g => dv.ownBlock = some g) w w' := by
  obtain ⟨v1, v2, rfl, -, -⟩ := id hI
  obtain ⟨q1, q2, q3, q4, q5, hb, hL, h5⟩ := h.blkOf
  obtain ⟨a5, c5, rfl, -, -, -, -⟩ := id h5
  obtain ⟨da, dc, rfl, -, -, -, -⟩ := hd.sl
  have HB := hd.blkOf
  have hn6 : rs.length ≤ 6 := by rw [h.2.1.len]; exact ok.r1
  have hp5 : d.length ≤ 5 := by rw [hdl]; exact ok.p1
  have l4 : w.cell? ⟨b, 4, none⟩ = some (.slice a5 rs.length c5) := hb.cell 4
  have hbl := hb.lt
  obtain ⟨w0, hw0⟩ : ∃ w0, w0 = (w.alloc (.cells #[v1, v2] 133)).alloc (.cells #[.slice da d.length dc, pv] 36) := ⟨_, rfl⟩
  have c0 : Ch Noone w w0 := by rw [hw0]; exact ((Ch.refl _ _).alloc _).alloc _
  have bi : Blk w0 w.heap.size 133 #[v1, v2] := by rw [hw0]; exact (Blk.new _ _ _).alloc _
  have bo : Blk w0 (w.heap.size + 1) 36 #[.slice da d.length dc, pv] := by rw [hw0]; exact Blk.new2 _ _ _ _
  have HW0 := Lib.hid hw0
  have C0 := Lib.hid c0
  have BI := Lib.hid bi
  have BO := Lib.hid bo
  have HK := Lib.hid (h.ch0 c0)
  have OK := Lib.hid ok
  have HI := Lib.hid (hI.ch0 c0)
  have HLs := Lib.hid (h5.ch0 c0)
  have HLy := Lib.hid (hL.ch0 c0)
  have HBk := Lib.hid (c0.blk hb (fun h => h))
  have HO := Lib.hid ho
  have HL := Lib.hid hl
  have HDl := Lib.hid hdl
  have HD := Lib.hid (hd.ch (S := Noone) c0 (fun _ _ _ h => h))
  have HPp := Lib.hid hP
  have HDb : Hid (∀ g, (Value.slice da d.length dc).ownBlock = some g → P g ∧ g < w.heap.size) := HB
  have HLen := Lib.hid h.2.1.len
  clear h ok hI ho hl hd hdl hP hb hL h5 HB hw0 c0 bi bo
  go_enter Tryz.func151, Tryz.ntmps151
  go_wp2_with fail
  rw [← HW0.out]
  go_loopw [17] (fun i wr => ∃ (k : Nat) (d1 : List Int), k ≤ rs.length ∧ i = .int .i64 k ∧ Drv L rs occ lies d k d1 ∧ Own P wr 3 1 (.slice da d.length dc) d1.length (d1.flatMap fInt) ∧ Ch (fun g => (Value.slice da d.length dc).ownBlock = some g) w0 wr) (fun i _ => (rs.length - intOf i).toNat)
  case atStart => exact ⟨0, d, by omega, rfl, ⟨rfl, fun h => h, fun _ => rfl, fun r h _ => by simp⟩, HD.out, Ch.refl _ _⟩
  case round =>
    clear l4 hbl HD
    obtain ⟨k, d1, hk, rfl, hdr, hown, hch⟩ := hrel
    have HDr := Lib.hid hdr
    have HOw := Lib.hid hown
    have hd1 : d1.length = d.length := hdr.len
    clear hdr hown
    have hK := HK.out.ch hch (fun g hg _ e => (HPp.out g (HDb.out g e).1).1 hg)
    have hI := HI.out.ch hch (fun g hg _ e => (HPp.out g (HDb.out g e).1).2 hg)
    have hLy := HLy.out.ch hch (fun g hg _ e => (HPp.out g (HDb.out g e).1).1 hg)
    have hBk := hch.blk HBk.out (fun e => (HPp.out b (HDb.out b e).1).1 HK.out.1)
    have hLs := HLs.out.ch hch (fun g hg _ e => (HPp.out g (HDb.out g e).1).1 hg.1)
    have hBI := hch.blk BI.out (fun e => by have := (HDb.out _ e).2; omega)
    have hBO := hch.blk BO.out (fun e => by have := (HDb.out _ e).2; omega)
    by_cases hkl : k < rs.length
    · have hkl' : k < L.routes.length := by rw [← HLen.out]; exact hkl
      obtain ⟨g5, o5, rfl, -, hg5, hat⟩ := hLs.at (f := fRS) (C := 4) (fun _ => rfl) (by omega) hkl
      have y0 : wr.cell? ⟨g5, o5 + k * 4, none⟩ = some (.int .i64 rs[k].mode) := hat 0 (by omega)
      have y1 : wr.cell? ⟨g5, o5 + k * 4 + 1, none⟩ = some (.int .i64 rs[k].timer) := hat 1 (by omega)
      have y2 : wr.cell? ⟨g5, o5 + k * 4 + 2, none⟩ = some (.int .i64 rs[k].gone) := hat 2 (by omega)
      have y3 : wr.cell? ⟨g5, o5 + k * 4 + 3, none⟩ = some (.bool rs[k].seen) := hat 3 (by omega)
      have hk0 : (0 : Int) ≤ k := by omega
      have hk1 : (k : Int) < rs.length := by omega
      obtain ⟨w1, hw1⟩ : ∃ w1, w1 = wr.alloc (.cells #[.int .i64 rs[k].mode, .int .i64 rs[k].timer, .int .i64 rs[k].gone, .bool rs[k].seen] 168) := ⟨_, rfl⟩
      have c1 : Ch Noone wr w1 := by rw [hw1]; exact (Ch.refl _ _).alloc _
      have HW1 := Lib.hid hw1
      have C1 := Lib.hid c1
      have HCh := Lib.hid hch
      have HK1 := Lib.hid (hK.ch0 c1)
      have HI1 := Lib.hid (hI.ch0 c1)
      have HLy1 := Lib.hid (hLy.ch0 c1)
      have HBk1 := Lib.hid (c1.blk hBk (fun h => h))
      have HBI1 := Lib.hid (c1.blk hBI (fun h => h))
      have HBO1 := Lib.hid (c1.blk hBO (fun h => h))
      have HOw1 := Lib.hid (HOw.out.ch c1 (fun _ _ _ h => h))
      have z0 : wr.cell? ⟨b, 0, none⟩ = some q1 := hBk.cell 0
      have z1 : wr.cell? ⟨b, 1, none⟩ = some q2 := hBk.cell 1
      have z2 : wr.cell? ⟨b, 2, none⟩ = some q3 := hBk.cell 2
      have z3 : wr.cell? ⟨b, 3, none⟩ = some q4 := hBk.cell 3
      have zb := hBk.lt
      have HMo : Hid (∀ m, rs[k].mode = m → rs[k].mode = m) := fun _ h => h
      have HNx : Hid (rs[k].mode ≠ 1 → Drv L rs occ lies d (k + 1) d1) := fun hm => ⟨HDr.out.len, HDr.out.rng, HDr.out.no, fun r hr ho => by
        rw [HDr.out.only r hr ho]
        by_cases hrk : r = k
        · subst hrk
          obtain ⟨⟨_, h1⟩, _⟩ := ho
          exact absurd h1 hm
        · by_cases h : r < k
          · rw [if_pos h, if_pos (by omega)]
          · rw [if_neg h, if_neg (by omega)]⟩
      clear hat hw1 c1 hK hI hLy hBk hLs hBI hBO hch
      by_cases hm : rs[k].mode = 1
      · have HM := Lib.hid hm
        rw [hm] at y0
        have hw1' := HW1.out
        rw [hm] at hw1'
        have HW1 := Lib.hid hw1'
        clear hm HNx hw1'
        go_wp2_with fail
        rw [← HW1.out]
        refine (needs_any O w1 _ L k HLy1.out OK.out hkl').mono ?_
        rintro e w2 ⟨vn, rfl, hns, c2⟩
        have NIn := Lib.hid (needs_in OK.out hkl')
        have NLe := needs_le100 OK.out hkl'
        have hns' := hns.sl
        obtain ⟨an, cn, rfl, -, -, -, -⟩ := id hns'
        have HNS := Lib.hid hns'
        have C2 := Lib.hid (C1.out.trans c2)
        have HK2 := Lib.hid (HK1.out.ch0 c2)
        have HI2 := Lib.hid (HI1.out.ch0 c2)
        have HLy2 := Lib.hid (HLy1.out.ch0 c2)
        have HBk2 := Lib.hid (c2.blk HBk1.out (fun h => h))
        have HBI2 := Lib.hid (c2.blk HBI1.out (fun h => h))
        have HBO2 := Lib.hid (c2.blk HBO1.out (fun h => h))
        have HOw2 := Lib.hid (HOw1.out.ch c2 (fun _ _ _ h => h))
        have s1 := C1.out.size
        have sw := Nat.le_trans C0.out.size HCh.out.size
        have HSz : Hid (w.heap.size ≤ w1.heap.size) := Nat.le_trans sw s1
        have HSz2 : Hid (w.heap.size ≤ w2.heap.size) := Nat.le_trans sw C2.out.size
        clear hns hns' c2 z0 z1 z2 z3 y0 y1 y2 y3 HK1 HI1 HLy1 HBk1 HBI1 HBO1 HOw1 s1 sw
        generalize hnd : L.routes[k].needs = ns at *
        have HND := Lib.hid hnd
        clear hnd
        go_wp2_with fail
        go_loopw [32] (fun i wr => ∃ (j : Nat) (d2 : List Int), j ≤ ns.length ∧ i = .int .i64 j ∧ d2.length = d1.length ∧ ((∀ x ∈ d1, 0 ≤ x ∧ x ≤ 2) → ∀ x ∈ d2, 0 ≤ x ∧ x ≤ 2) ∧ (Only rs occ k → d2 = drv lies (ns.take j) d1) ∧ Own P wr 3 1 (.slice da d.length dc) d2.length (d2.flatMap fInt) ∧ Ch (fun g => (Value.slice da d.length dc).ownBlock = some g) w2 wr) (fun i _ => (ns.length - intOf i).toNat)
        case atStart => exact ⟨0, d1, by omega, rfl, rfl, fun h => h, fun _ => rfl, HOw2.out, Ch.refl _ _⟩
        case round =>
          clear HOw2
          obtain ⟨j, d2, hj, rfl, hl2, hr2, ho2, hown, hch⟩ := hrel
          have HOw := Lib.hid hown
          have HR2 := Lib.hid hr2
          have HO2 := Lib.hid ho2
          have hd2 : d2.length = d.length := by omega
          clear hown hr2 ho2
          have hLyQ := HLy2.out.ch hch (fun g hg _ e => (HPp.out g (HDb.out g e).1).1 hg)
          have hBkQ := hch.blk HBk2.out (fun e => (HPp.out b (HDb.out b e).1).1 HK.out.1)
          have hBIQ := hch.blk HBI2.out (fun e => by have := (HDb.out _ e).2; omega)
          have hBOQ := hch.blk HBO2.out (fun e => by have := (HDb.out _ e).2; omega)
          have hKQ := HK2.out.ch hch (fun g hg _ e => (HPp.out g (HDb.out g e).1).1 hg)
          have hIQ := HI2.out.ch hch (fun g hg _ e => (HPp.out g (HDb.out g e).1).2 hg)
          have hNSQ := HNS.out.ch hch (fun g hg _ e => by have := (HDb.out _ e).2; have h1 : w1.heap.size ≤ g := hg; have := HSz.out; omega)
          by_cases hjl : j < ns.length
          · obtain ⟨bn, on, rfl, -, hbn, hat⟩ := hNSQ.at (f := fNeed) (C := 2) (fun _ => rfl) (by omega) hjl
            have y0 : wr.cell? ⟨bn, on + j * 2, none⟩ = some (.int .i64 ns[j].pt) := hat 0 (by omega)
            have y1 : wr.cell? ⟨bn, on + j * 2 + 1, none⟩ = some (.bool ns[j].rev) := hat 1 (by omega)
            obtain ⟨n0, n1⟩ := NIn.out ns[j] (List.getElem_mem hjl)
            have HSn := Lib.hid (drv_snoc lies ns j hjl d1)
            have hj0 : (0 : Int) ≤ j := by omega
            have hj1 : (j : Int) < ns.length := by omega
            clear hat
            generalize ns[j] = n at *
            obtain ⟨np, nr⟩ := n
            dsimp only at *
            obtain ⟨q, rfl⟩ : ∃ q : Nat, np = q := ⟨np.toNat, by omega⟩
            have hq : q < L.pts.length := by omega
            obtain ⟨b2, o2, e2, rfl, -, -, hb2, -, sc⟩ := hLyQ.pnt hq
            obtain ⟨s0, s1⟩ := OK.out.sec _ (List.getElem_mem hq)
            obtain ⟨w3, hw3⟩ : ∃ w3, w3 = wr.alloc (.cells #[.int .i64 q, .bool nr] 48) := ⟨_, rfl⟩
            have c3 : Ch Noone wr w3 := by rw [hw3]; exact (Ch.refl _ _).alloc _
            have bn3 : Blk w3 wr.heap.size 48 #[.int .i64 q, .bool nr] := by rw [hw3]; exact Blk.new _ _ _
            have bb := c3.blk hBkQ (fun h => h)
            have t1 : w3.cell? ⟨b, 1, none⟩ = some (.slice (some ⟨b2, o2, none⟩) L.pts.length e2) := bb.cell 1
            have t2 : w3.cell? ⟨b2, o2 + q * 2 + 1, none⟩ = some (.int .i64 L.pts[q].sec) := (c3.rd hb2 _).trans sc
            have t3 : w3.cell? ⟨wr.heap.size, 0, none⟩ = some (.int .i64 q) := bn3.cell 0
            have hq0 : (0 : Int) ≤ q := by omega
            have hq1 : (q : Int) < L.pts.length := by omega
            generalize L.pts[q].sec = sec at *
            obtain ⟨sn, rfl⟩ : ∃ sn : Nat, sec = sn := ⟨sec.toNat, by omega⟩
            have hsn : sn < occ.length := by rw [HO.out]; omega
            obtain ⟨b1, o1, k1, rfl, -, -, hb1, oc⟩ := hIQ.occ hsn
            have HOc : Hid (occ[sn] = true → ¬ Only rs occ k) := fun e hc => by have := hc.2.2 _ (List.getElem_mem hsn); rw [e] at this; cases this
            have hs0 : (0 : Int) ≤ sn := by omega
            have hs1 : (sn : Int) < occ.length := by omega
            generalize occ[sn] = oy at *
            have HW3 := Lib.hid hw3
            have C3 := Lib.hid c3
            have BN3 := Lib.hid bn3
            have BI3 := Lib.hid (c3.blk hBIQ (fun h => h))
            have BO3 := Lib.hid (c3.blk hBOQ (fun h => h))
            have HI3 := Lib.hid (hIQ.ch0 c3)
            have HOw3 := Lib.hid (HOw.out.ch c3 (fun _ _ _ h => h))
            have OC3 : Hid (w3.cell? ⟨b1, o1 + sn, none⟩ = some (.bool oy)) := (c3.rd hb1 _).trans oc
            have HB1 : Hid (b1 < w3.heap.size) := Nat.lt_of_lt_of_le hb1 c3.size
            have HCh2 := Lib.hid hch
            have HHo : Hid (∀ k, _) := fun k => holder_any O (w3.drewN k) b L rs sn ((hKQ.ch0 c3).ch0 ((Ch.refl _ _).drewN k)) OK.out
            have HLi : Hid (∀ (W : World), Ch Noone w3 W → _) := fun W c => lies_any B W _ occ lies ⟨q, nr⟩ (HI3.out.ch0 c) hq0 (by rw [HL.out]; exact hq1) (by rw [HL.out]; have := OK.out.p1; omega)
            clear hw3 c3 bn3 bb n0 n1 s0 s1 sc oc hLyQ hBkQ hBIQ hBOQ hKQ hIQ hNSQ hb1 hb2
            go_wp2_with fail
            rw [← HW3.out]
            go_quiet (fail)
            go_wp2_with fail
            refine (HHo.out _).mono ?_
            rintro e w4 ⟨h, rfl, hh, c4⟩
            have HHh : Hid (0 ≤ h → h ≠ k → ¬ Only rs occ k) := fun h0 hk hc => by
              rcases hh with h1 | ⟨j, hj, rfl, h2⟩
              · omega
              · exact h2 (hc.2.1 j hj (by omega))
            have C4 : Hid (Ch Noone w3 w4) := ((Ch.refl _ _).drewN _).trans c4
            clear hh c4 t1 t2 t3 y0 y1 HHo
            have bi4 := C4.out.blk BI3.out (fun h => h)
            have bn4 := C4.out.blk BN3.out (fun h => h)
            have u0 : w4.cell? ⟨w.heap.size, 0, none⟩ = some (.slice (some ⟨b1, o1, none⟩) occ.length k1) := bi4.cell 0
            have u1 : w4.cell? ⟨w.heap.size, 1, none⟩ = some v2 := bi4.cell 1
            have u2 : w4.cell? ⟨wr.heap.size, 0, none⟩ = some (.int .i64 q) := bn4.cell 0
            have u3 : w4.cell? ⟨wr.heap.size, 1, none⟩ = some (.bool nr) := bn4.cell 1
            have HLi4 := Lib.hid (HLi.out w4 C4.out)
            clear bi4 bn4 HLi
            go_wp2_with fail
            refine HLi4.out.mono ?_
            rintro e w5 ⟨rfl, c5⟩
            have C5 : Hid (Ch Noone w3 w5) := C4.out.trans c5
            clear c5 u0 u1 u2 u3 HLi4
            have u0 : w5.cell? ⟨w.heap.size, 0, none⟩ = some (.slice (some ⟨b1, o1, none⟩) occ.length k1) := (C5.out.blk BI3.out (fun h => h)).cell 0
            have u1 : w5.cell? ⟨b1, o1 + sn, none⟩ = some (.bool oy) := (C5.out.rd HB1.out _).trans OC3.out
            have HNext : Hid ((lieB lies ⟨q, nr⟩ = true ∨ ¬ Only rs occ k) → ∃ (j' : Nat) (d2' : List Int), j' ≤ ns.length ∧ Value.int .i64 ((j : Int) + 1) = .int .i64 j' ∧ d2'.length = d1.length ∧ ((∀ x ∈ d1, 0 ≤ x ∧ x ≤ 2) → ∀ x ∈ d2', 0 ≤ x ∧ x ≤ 2) ∧ (Only rs occ k → d2' = drv lies (ns.take j') d1) ∧ Own P w5 3 1 (.slice da d.length dc) d2'.length (d2'.flatMap fInt) ∧ Ch (fun g => (Value.slice da d.length dc).ownBlock = some g) w2 w5) := fun hh =>
              ⟨j + 1, d2, by omega, by go_num, hl2, HR2.out, fun ho => by
                rcases hh with hh | hh
                · rw [HSn.out, if_pos hh]; exact HO2.out ho
                · exact absurd ho hh, HOw3.out.ch C5.out (fun _ _ _ h => h), (HCh2.out.then C3.out (fun _ _ h => h.elim)).then C5.out (fun _ _ h => h.elim)⟩
            generalize hly : lieB lies ⟨q, nr⟩ = ly at *
            have HLY := Lib.hid hly
            clear hly
            cases ly
            · cases oy
              · by_cases hst : h < 0 ∨ h = k
                · have HPo := Lib.hid (position_any w5.drew ⟨q, nr⟩)
                  have hd5 := HOw3.out.ch C5.out (fun _ _ _ h => h)
                  have hqd : q < d2.length := by rw [hd2, HDl.out]; exact hq
                  rw [hd2] at hd5
                  obtain ⟨dg, rfl⟩ : ∃ dg, da = some ⟨dg, 0, none⟩ := by
                    obtain ⟨_, h2⟩ := hd5
                    rcases h2 with ⟨_, h2⟩ | ⟨g, cap, cur, e, _⟩
                    · omega
                    · simp only [Value.slice.injEq] at e
                      exact ⟨g, e.1⟩
                  obtain ⟨bq, oq, eq, -, hbq, hat⟩ := hd5.sl.at (f := fInt) (C := 1) (fun _ => rfl) (by omega) hqd
                  simp only [Option.some.injEq, Addr.mk.injEq, and_true] at eq
                  obtain ⟨rfl, rfl⟩ := eq
                  have ya := hat 0 (by omega)
                  rw [Nat.zero_add, Nat.mul_one] at ya
                  have ya2 : w5.cell? ⟨dg, q, none⟩ = some (.int .i64 d2[q]) := ya
                  generalize hdq : d2[q] = dq at ya2
                  have HYa : Hid (∀ W, Ch Noone w5 W → W.cell? ⟨dg, q, none⟩ = some (.int .i64 dq)) := fun W c => (c.rd hbq _).trans ya2
                  have HFz : Hid (∀ W, Ch Noone w5 W → W.frozen? ⟨dg, q, none⟩ = false) := fun W c => by
                    obtain ⟨cur, hc⟩ := (hd5.ch (S := Noone) c (fun _ _ _ h => h)).blk
                    exact hc.free q
                  have HS : Hid (∀ W', Ch Noone w5 W' → W'.cell? ⟨w.heap.size + 1, 0, none⟩ = some (.slice (some ⟨dg, 0, none⟩) d.length dc) ∧ W'.cell? ⟨wr.heap.size, 0, none⟩ = some (.int .i64 q) ∧ W'.cell? ⟨wr.heap.size, 0 + 1, none⟩ = some (.bool nr)) := fun W' c =>
                    ⟨((C5.out.trans c).blk BO3.out (fun h => h)).cell 0, ((C5.out.trans c).blk BN3.out (fun h => h)).cell 0, ((C5.out.trans c).blk BN3.out (fun h => h)).cell 1⟩
                  have HPut : Hid (∀ W, Ch Noone w5 W → Own P (W.setCell ⟨dg, q, none⟩ (.int .i64 (posOf ⟨q, nr⟩))) 3 1 (.slice (some ⟨dg, 0, none⟩) d.length dc) (d2.set q (posOf ⟨q, nr⟩)).length ((d2.set q (posOf ⟨q, nr⟩)).flatMap fInt)) := fun W c => by
                    have h1 := hd5.ch (S := Noone) c (fun _ _ _ h => h)
                    have h2 := Own.put (f := fInt) (C := 1) (fun _ => rfl) (by omega) h1 hd2 (k := q) (by rw [← hd2]; exact hqd) (posOf ⟨q, nr⟩)
                    rw [List.length_set, hd2]
                    rw [Nat.mul_one] at h2
                    exact h2
                  have hk' : (h == (k : Int)) = true ∨ h < 0 := by
                    rcases hst with e | e
                    · exact .inr e
                    · exact .inl (by simpa using e)
                  have HK' := Lib.hid hk'
                  have hq2 : (q : Int) < d.length := by rw [HDl.out]; exact hq1
                  have HPr := Lib.hid (posOf_rng ⟨q, nr⟩)
                  have hjn : j + 1 ≤ ns.length := by omega
                  clear hdq hst hat ya ya2 hk' HNext hbq
                  generalize posOf ⟨q, nr⟩ = pz at *
                  have HSS : Hid (∀ W', Ch Noone w5 W' → (W'.setCell ⟨dg, q, none⟩ (.int .i64 pz)).cell? ⟨w.heap.size + 1, 0, none⟩ = some (.slice (some ⟨dg, 0, none⟩) d.length dc) ∧ (W'.setCell ⟨dg, q, none⟩ (.int .i64 pz)).cell? ⟨wr.heap.size, 0, none⟩ = some (.int .i64 q) ∧ (W'.setCell ⟨dg, q, none⟩ (.int .i64 pz)).cell? ⟨wr.heap.size, 0 + 1, none⟩ = some (.bool nr)) := fun W' c => by
                    have h1 := (HDb.out dg rfl).2
                    have h2 := HSz2.out
                    have h3 := HCh2.out.size
                    have n1 : wr.heap.size ≠ dg := by omega
                    exact ⟨(((C5.out.trans c).blk BO3.out (fun h => h)).other (by omega) _ _).cell 0, (((C5.out.trans c).blk BN3.out (fun h => h)).other n1 _ _).cell 0, (((C5.out.trans c).blk BN3.out (fun h => h)).other n1 _ _).cell 1⟩
                  by_cases hneg : h < 0
                  · clear hk0
                    go_wp2_with fail
                    go_region_held3 (fun W' => W'.cell? ⟨w.heap.size + 1, 0, none⟩ = some (.slice (some ⟨dg, 0, none⟩) d.length dc) ∧ W'.cell? ⟨wr.heap.size, 0, none⟩ = some (.int .i64 q) ∧ W'.cell? ⟨wr.heap.size, 0 + 1, none⟩ = some (.bool nr))
                      (first | exact HS.out _ (Ch.refl _ _).drew | exact HS.out _ ((Ch.refl _ _).drew.trans c6) | exact HSS.out _ ((Ch.refl _ _).drew.trans c6)) ((go_at_call 163; refine HPo.out.mono ?_; rintro e w6 ⟨rfl, c6⟩; have hya := HYa.out w6 ((Ch.refl _ _).drew.trans c6); have hfz := HFz.out w6 ((Ch.refl _ _).drew.trans c6)))
                    go_wp2_with fail
                    go_roundw
                    case rel =>
                      have c6' : Ch Noone w5 w6 := (Ch.refl _ _).drew.trans c6
                      refine ⟨j + 1, d2.set q pz, by omega, by go_num, by rw [List.length_set]; exact hl2, fun h => set_rng (HR2.out h) q HPr.out, fun ho => ?_, HPut.out w6 c6', ?_⟩
                      · rw [HSn.out, if_neg (by decide), ← HO2.out ho]
                        rfl
                      · exact (((HCh2.out.then C3.out (fun _ _ h => h.elim)).then C5.out (fun _ _ h => h.elim)).then c6' (fun _ _ h => h.elim)).trans (Ch.set (S := fun g => (Value.slice (some ⟨dg, 0, none⟩) d.length dc).ownBlock = some g) (Ch.refl _ w6) (b := dg) (fun _ => rfl) q (.int .i64 pz))
                    case measure => simp [intOf]; omega
                  · have hge : 0 ≤ h := by omega
                    have hkk : (h == (k : Int)) = true := by
                      rcases HK'.out with e | e
                      · exact e
                      · omega
                    clear hneg
                    go_wp2_with fail
                    go_region_held3 (fun W' => W'.cell? ⟨w.heap.size + 1, 0, none⟩ = some (.slice (some ⟨dg, 0, none⟩) d.length dc) ∧ W'.cell? ⟨wr.heap.size, 0, none⟩ = some (.int .i64 q) ∧ W'.cell? ⟨wr.heap.size, 0 + 1, none⟩ = some (.bool nr))
                      (first | exact HS.out _ (Ch.refl _ _).drew | exact HS.out _ ((Ch.refl _ _).drew.trans c6) | exact HSS.out _ ((Ch.refl _ _).drew.trans c6)) ((go_at_call 163; refine HPo.out.mono ?_; rintro e w6 ⟨rfl, c6⟩; have hya := HYa.out w6 ((Ch.refl _ _).drew.trans c6); have hfz := HFz.out w6 ((Ch.refl _ _).drew.trans c6)))
                    go_wp2_with fail
                    go_roundw
                    case rel =>
                      have c6' : Ch Noone w5 w6 := (Ch.refl _ _).drew.trans c6
                      refine ⟨j + 1, d2.set q pz, by omega, by go_num, by rw [List.length_set]; exact hl2, fun h => set_rng (HR2.out h) q HPr.out, fun ho => ?_, HPut.out w6 c6', ?_⟩
                      · rw [HSn.out, if_neg (by decide), ← HO2.out ho]
                        rfl
                      · exact (((HCh2.out.then C3.out (fun _ _ h => h.elim)).then C5.out (fun _ _ h => h.elim)).then c6' (fun _ _ h => h.elim)).trans (Ch.set (S := fun g => (Value.slice (some ⟨dg, 0, none⟩) d.length dc).ownBlock = some g) (Ch.refl _ w6) (b := dg) (fun _ => rfl) q (.int .i64 pz))
                    case measure => simp [intOf]; omega
                · have hge : 0 ≤ h := by omega
                  have hnk : h ≠ k := by omega
                  have HF := Lib.hid (HNext.out (.inr (HHh.out hge hnk)))
                  have hne : (h == (k : Int)) = false := by simpa using hnk
                  clear hst hnk
                  go_wp2_with fail
                  go_roundw
                  case rel => exact HF.out
                  case measure => simp [intOf]; omega
              · have HF := Lib.hid (HNext.out (.inr (HOc.out rfl)))
                go_wp2_with fail
                go_roundw
                case rel => exact HF.out
                case measure => simp [intOf]; omega
            · have HF := Lib.hid (HNext.out (.inl rfl))
              go_wp2_with fail
              go_roundw
              case rel => exact HF.out
              case measure => simp [intOf]; omega
          · have HDN : Hid (Drv L rs occ lies d (k + 1) d2) := ⟨hd2, fun h => HR2.out (HDr.out.rng h), fun h => absurd HM.out (h _ (List.getElem_mem hkl)), fun r hr ho => by
              by_cases hrk : r = k
              · subst hrk
                have h1 := HO2.out ho
                rw [List.take_of_length_le (by omega), HDr.out.only r hr ho, if_neg (by omega)] at h1
                rw [if_pos (by omega), h1, HND.out]
              · have h0 := ho.2.1 k hkl (fun e => hrk e.symm)
                rw [HM.out] at h0
                exact absurd h0 (by decide)⟩
            go_wp2_with fail
            go_roundw
            case rel => exact ⟨k + 1, d2, by omega, by go_num, HDN.out, HOw.out, (HCh.out.then C2.out (fun _ _ h => h.elim)).then hch (fun _ _ h => h)⟩
            case measure => simp [intOf]; omega
      · have hm' : (rs[k].mode != 1) = true := by simpa using hm
        have HNx' := Lib.hid (HNx.out hm)
        clear hm
        go_wp2_with fail
        rw [← HW1.out]
        go_roundw
        case rel => exact ⟨k + 1, d1, by omega, by go_num, HNx'.out, HOw1.out, HCh.out.then C1.out (fun _ _ h => h.elim)⟩
        case measure => simp [intOf]; omega
    · go_wp2_with fail
      go_end0
      have hkk : k = rs.length := by omega
      subst hkk
      exact ⟨rfl, ⟨d1, HDr.out, HOw.out⟩, (C0.out.mono fun _ _ h => h.elim).trans hch⟩
end Go.Proofs.YtkplgggdidhnoaaGreatDoor

namespace Go.Proofs.YtkplgggdidhnoaaGreatDoor
open Go.ChangeShapes Go.WideShapes Go.ChangeAt Go.RowKit
set_option linter.unusedVariables false

/-- Routes of which those ahead of k have been stepped. -/
structure Stp (L : Lay) (occ : List Bool) (lies : List Int) (rs : List RS) (k : Nat) (rs1 : List RS) : Prop where
  len : rs1.length = rs.length
  at' : ∀ (i : Nat) (h : i < rs.length) (h1 : i < rs1.length) (h2 : i < L.routes.length), rs1[i] = if i < k then rs[i].step L.routes[i] occ lies else rs[i]
/-- What proceeds by the routes ahead of k. -/
structure Prc (L : Lay) (rs : List RS) (occ : List Bool) (lies : List Int) (p : List Bool) (k : Nat) (p' : List Bool) : Prop where
  len : p'.length = p.length
  no : (∀ x ∈ rs, x.mode ≠ 2) → p' = p
  yes : ∀ (r : Nat) (h : r < rs.length) (h2 : r < L.routes.length), r < k → rs[r].mode = 2 → L.routes[r].path.any (occB occ) = false → L.routes[r].needs.all (lieB lies) = true → p'.getD L.routes[r].frm.toNat false = true

theorem Stp.next {L : Lay} {occ : List Bool} {lies : List Int} {rs rs1 : List RS} {k : Nat} (h : Stp L occ lies rs k rs1) (hk : k < rs.length) (hk1 : k < rs1.length) (hk2 : k < L.routes.length) : Stp L occ lies rs (k + 1) (rs1.set k (rs1[k].step L.routes[k] occ lies)) := by
  refine ⟨by rw [List.length_set]; exact h.len, fun i hi h1 h2 => ?_⟩
  have h1' : i < rs1.length := by simpa using h1
  rw [List.getElem_set]
  split
  · rename_i e
    subst e
    have := h.at' k hi h1' h2
    rw [if_neg (by omega)] at this
    rw [if_pos (by omega), this]
  · rw [h.at' i hi h1' h2]
    by_cases hik : i < k
    · rw [if_pos hik, if_pos (by omega)]
    · rw [if_neg hik, if_neg (by omega)]

theorem Prc.skip {L : Lay} {rs : List RS} {occ : List Bool} {lies : List Int} {p p' : List Bool} {k : Nat} (h : Prc L rs occ lies p k p') (hn : ∀ (hk : k < rs.length) (h2 : k < L.routes.length), rs[k].mode = 2 → L.routes[k].path.any (occB occ) = false → L.routes[k].needs.all (lieB lies) = true → False) : Prc L rs occ lies p (k + 1) p' :=
  ⟨h.len, h.no, fun r hr h2 hrk hm ha hb => by
    by_cases e : r = k
    · subst e; exact (hn hr h2 hm ha hb).elim
    · exact h.yes r hr h2 (by omega) hm ha hb⟩
theorem Prc.put {L : Lay} {rs : List RS} {occ : List Bool} {lies : List Int} {p p' : List Bool} {k : Nat} (h : Prc L rs occ lies p k p') (hk : k < rs.length) (h2 : k < L.routes.length) (hm : rs[k].mode = 2) (hf : L.routes[k].frm.toNat < p'.length) : Prc L rs occ lies p (k + 1) (p'.set L.routes[k].frm.toNat true) :=
  ⟨by rw [List.length_set]; exact h.len, fun hn => absurd hm (hn _ (List.getElem_mem hk)), fun r hr h2' hrk hm' ha hb => by
    by_cases e : r = k
    · subst e; simp [hf]
    · have h1 := h.yes r hr h2' (by omega) hm' ha hb
      by_cases e2 : L.routes[k].frm.toNat = L.routes[r].frm.toNat
      · rw [e2] at hf ⊢; simp [hf]
      · rw [List.getD_eq_getElem?_getD] at h1 ⊢
        rw [List.getElem?_set_ne e2]; exact h1⟩

theorem Own.isSome {O : Nat → Prop} {w : World} {e C n m cap : Nat} {a : Option Addr} {xs : List Value} (h : Own O w e C (.slice a m cap) n xs) (hn : 0 < n) : ∃ g, a = some ⟨g, 0, none⟩ ∧ O g ∧ g < w.heap.size := by
  obtain ⟨_, h2⟩ := h
  rcases h2 with ⟨_, h2⟩ | ⟨g, cap, cur, e, hg, hh, _⟩
  · omega
  · simp only [Value.slice.injEq] at e
    exact ⟨g, e.1, hg, lt_of_heap hh⟩

set_option maxRecDepth 100000 in
set_option maxHeartbeats 8000000 in
theorem lock_cycle (O B : Nat → Prop) (w : World) (b : Nat) (L : Lay) (rs : List RS) (v : Value) (occ : List Bool) (lies : List Int) (h : LockAt O w b L rs) (ok : LayOk L) (hI : InR B w v occ lies) (ho : occ.length = L.secs.length) (hl : lies.length = L.pts.length) (hz : ∀ x ∈ lies, 0 ≤ x ∧ x ≤ 2) (hB : ∀ g, B g → ¬ O g) :
    Calls Tryz.prog 130 #[.pointer (some ⟨b, 0, none⟩), v] w fun e w' => ∃ u d p rs', e = .returned u ∧ OutAt (New w.heap.size) w' u d p ∧ LockAt O w' b L rs' ∧ Stp L occ lies rs rs.length rs' ∧
      Drv L rs' occ lies (List.replicate L.pts.length 0) rs'.length d ∧ Prc L rs' occ lies (List.replicate L.sigs.length false) rs'.length p ∧ Ch O w w' := by
  obtain ⟨v1, v2, rfl, -, -⟩ := id hI
  have h1 : LockAt (fun g => O g ∧ g < w.heap.size) w b L rs := h.mono fun g hg hl => ⟨hg, hl⟩
  have hI1 : InR (fun g => B g ∧ g < w.heap.size) w (.agg #[v1, v2]) occ lies := hI.mono fun g hg hl => ⟨hg, hl⟩
  obtain ⟨w0, hw0⟩ : ∃ w0, w0 = (w.alloc (.cells #[v1, v2] 133)).alloc (.cells #[.slice none 0 0, .slice none 0 0] 36) := ⟨_, rfl⟩
  have c0 : Ch Noone w w0 := by rw [hw0]; exact ((Ch.refl _ _).alloc _).alloc _
  have bi : Blk w0 w.heap.size 133 #[v1, v2] := by rw [hw0]; exact (Blk.new _ _ _).alloc _
  have bo : Blk w0 (w.heap.size + 1) 36 #[.slice none 0 0, .slice none 0 0] := by rw [hw0]; exact Blk.new2 _ _ _ _
  have sz0 : w0.heap.size = w.heap.size + 2 := by rw [hw0]; simp
  have HW0 := Lib.hid hw0
  have C0 := Lib.hid c0
  have BI := Lib.hid bi
  have BO := Lib.hid bo
  have SZ0 := Lib.hid sz0
  have HK0 := Lib.hid (h1.ch0 c0)
  have HI0 := Lib.hid (hI1.ch0 c0)
  have OK := Lib.hid ok
  have HO := Lib.hid ho
  have HL := Lib.hid hl
  have HZ := Lib.hid hz
  have HB := Lib.hid hB
  have HLen := Lib.hid h.2.1.len
  have hn6 : rs.length ≤ 6 := by rw [h.2.1.len]; exact ok.r1
  have HSf := Lib.hid (lock_safe _ w0 b L rs (h1.ch0 c0) ok)
  clear h h1 ok hI hI1 ho hl hz hB hw0 c0 bi bo sz0
  go_enter Tryz.func130, Tryz.ntmps130
  go_wp2_with fail
  rw [← HW0.out]
  refine HSf.out.mono ?_
  rintro e w1 ⟨u, rfl, ⟨dv, pv, rfl, hd, hp⟩, c1⟩
  obtain ⟨da, dc, rfl, -, -, -, -⟩ := id hd.sl
  obtain ⟨pa, pc, rfl, -, -, -, -⟩ := id hp.sl
  simp only [List.length_replicate] at hd hp ⊢
  have DLt : Hid (∀ g, (Value.slice da L.pts.length dc).ownBlock = some g → g < w1.heap.size) := fun g hg => (hd.blkOf g hg).2
  have PLt : Hid (∀ g, (Value.slice pa L.sigs.length pc).ownBlock = some g → w0.heap.size ≤ g ∧ g < w1.heap.size) := fun g hg => ⟨(hp.blkOf g hg).1.1, (hp.blkOf g hg).2⟩
  obtain ⟨w2, hw2⟩ : ∃ w2, w2 = w1.alloc (.cells #[.slice da L.pts.length dc, .slice pa L.sigs.length pc] 36) := ⟨_, rfl⟩
  have c2 : Ch Noone w1 w2 := by rw [hw2]; exact (Ch.refl _ _).alloc _
  have bt : Blk w2 w1.heap.size 36 #[.slice da L.pts.length dc, .slice pa L.sigs.length pc] := by rw [hw2]; exact Blk.new _ _ _
  have HW2 := Lib.hid hw2
  have C2 := Lib.hid (c1.trans c2)
  have HD2 := Lib.hid (hd.ch (S := Noone) c2 (fun _ _ _ h => h))
  have HP2 := Lib.hid (hp.ch (S := Noone) c2 (fun _ _ _ h => h))
  have BT := Lib.hid bt
  have SZ1 := Lib.hid c1.size
  clear hd hp hw2 c1 c2 bt
  obtain ⟨q1, q2, q3, q4, q5, hb, hL, h5⟩ := (HK0.out.ch0 C2.out).blkOf
  have bi2 := C2.out.blk BI.out (fun h => h)
  have x0 : w2.cell? ⟨b, 0, none⟩ = some q1 := hb.cell 0
  have x1 : w2.cell? ⟨b, 0 + 1, none⟩ = some q2 := hb.cell 1
  have x2 : w2.cell? ⟨b, 0 + 2, none⟩ = some q3 := hb.cell 2
  have x3 : w2.cell? ⟨b, 0 + 3, none⟩ = some q4 := hb.cell 3
  have x4 : w2.cell? ⟨w.heap.size, 0, none⟩ = some v1 := bi2.cell 0
  have x5 : w2.cell? ⟨w.heap.size, 0 + 1, none⟩ = some v2 := bi2.cell 1
  have HMI := Lib.hid (mayIn_yes _ _ w2.drew _ _ L occ lies (hL.ch0 (Ch.refl _ _).drew) OK.out ((HI0.out.ch0 C2.out).ch0 (Ch.refl _ _).drew) HO.out HL.out HZ.out)
  clear hb hL h5 bi2
  go_wp2_with fail
  rw [← HW2.out]
  go_still_tail 8, (by kernel_rfl)
  change wpList _ _ _ _ _ w2.drew
  go_wp2_with fail
  refine HMI.out.mono ?_
  rintro e w3 ⟨rfl, c3⟩
  have C3 : Hid (Ch Noone w2 w3) := (Ch.refl _ _).drew.trans c3
  clear c3 x0 x1 x2 x3 x4 x5 HMI
  have hK3 := (HK0.out.ch0 C2.out).ch0 C3.out
  obtain ⟨q1, q2, q3, q4, q5, hb, hL, h5⟩ := hK3.blkOf
  obtain ⟨a5, c5, rfl, -, -, -, -⟩ := id h5
  have x4 : w3.cell? ⟨b, 4, none⟩ = some (.slice a5 rs.length c5) := hb.cell 4
  have HK3 := Lib.hid hK3
  clear hK3 hb hL h5
  go_wp2_with fail
  go_loopw [29] (fun i wr => ∃ (k : Nat) (rs1 : List RS), k ≤ rs.length ∧ i = .int .i64 k ∧ Stp L occ lies rs k rs1 ∧ LockAt (fun g => O g ∧ g < w.heap.size) wr b L rs1 ∧ Ch (fun g => O g ∧ g < w.heap.size) w3 wr) (fun i _ => (rs.length - intOf i).toNat)
  case atStart => exact ⟨0, rs, by omega, rfl, ⟨rfl, fun i h h1 h2 => by rw [if_neg (by omega)]⟩, HK3.out, Ch.refl _ _⟩
  case round =>
    clear x4 HK3
    obtain ⟨k, rs1, hk, rfl, hst, hK, hch⟩ := hrel
    have BIr := hch.blk (C3.out.blk (C2.out.blk BI.out (fun h => h)) (fun h => h)) (fun e => by have := e.2; omega)
    have BTr := hch.blk (C3.out.blk BT.out (fun h => h)) (fun e => by have h1 := e.2; have h2 := SZ0.out; have h3 := SZ1.out; omega)
    have BOr := hch.blk (C3.out.blk (C2.out.blk BO.out (fun h => h)) (fun h => h)) (fun e => by have := e.2; omega)
    have hIr := ((HI0.out.ch0 C2.out).ch0 C3.out).ch hch (fun g hg _ e => HB.out g hg.1 e.1)
    by_cases hkl : k < rs.length
    · have hk1 : k < rs1.length := by rw [hst.len]; exact hkl
      have hk2 : k < L.routes.length := by rw [← HLen.out]; exact hkl
      have HNx := Lib.hid (hst.next hkl hk1 hk2)
      have hsl := hst.len
      obtain ⟨q1, q2, q3, b4, o4, c4, g, c5', p1, p2, H⟩ := hK.at hk1 hk2
      have hRk := hK.2.1.ok k hk1 hk2
      have HR := Lib.hid (hRk.step (by have := (OK.out.route _ (List.getElem_mem hk2)).path.2.2.1; omega) occ lies)
      have HSt := Lib.hid (step_any _ _ wr.drew b L rs1 _ occ lies k (hK.ch0 (Ch.refl _ _).drew) OK.out (hIr.ch0 (Ch.refl _ _).drew) HO.out HL.out hk1 hk2)
      have HS : Hid (∀ W', Ch Noone wr W' → W'.cell? ⟨b, 4, none⟩ = some (.slice (some ⟨g, 0, none⟩) rs1.length c5') ∧ W'.cell? ⟨w.heap.size, 0, none⟩ = some v1 ∧ W'.cell? ⟨w.heap.size, 0 + 1, none⟩ = some v2) := fun W' c =>
        ⟨(c.blk H.blk (fun h => h)).cell 4, (c.blk BIr (fun h => h)).cell 0, (c.blk BIr (fun h => h)).cell 1⟩
      have HF : Hid (∀ W', Ch Noone wr W' → (W'.cell? ⟨g, k * 4, none⟩ = some (.int .i64 rs1[k].mode) ∧ W'.cell? ⟨g, k * 4 + 1, none⟩ = some (.int .i64 rs1[k].timer) ∧ W'.cell? ⟨g, k * 4 + 2, none⟩ = some (.int .i64 rs1[k].gone) ∧ W'.cell? ⟨g, k * 4 + 3, none⟩ = some (.bool rs1[k].seen)) ∧
          W'.frozen? ⟨g, k * 4, none⟩ = false ∧ W'.frozen? ⟨g, k * 4 + 1, none⟩ = false ∧ W'.frozen? ⟨g, k * 4 + 2, none⟩ = false ∧ W'.frozen? ⟨g, k * 4 + 3, none⟩ = false) := fun W' c =>
        ⟨(H.ch0 c).xc, (H.ch0 c).free _, (H.ch0 c).free _, (H.ch0 c).free _, (H.ch0 c).free _⟩
      have HSS : Hid (∀ W', Ch (fun g' => g' = g) wr W' → W'.cell? ⟨b, 4, none⟩ = some (.slice (some ⟨g, 0, none⟩) rs1.length c5') ∧ W'.cell? ⟨w.heap.size, 0, none⟩ = some v1 ∧ W'.cell? ⟨w.heap.size, 0 + 1, none⟩ = some v2) := fun W' c => by
        have h1 := c.blk H.blk (fun e => H.gb e.symm)
        have h2 := c.blk BIr (fun e => by have := H.og.2; omega)
        exact ⟨h1.cell 4, h2.cell 0, h2.cell 1⟩
      have HPut : Hid (∀ W', Ch Noone wr W' → ∀ y, RSOk L.routes[k] y → LockAt (fun g => O g ∧ g < w.heap.size) (putRow W' g (k * 4) (fRS y)) b L (rs1.set k y) ∧ Ch (fun g' => g' = g) W' (putRow W' g (k * 4) (fRS y))) := fun W' c y hy => (H.ch0 c).put hK.2.1 hk1 y (fun _ => hy)
      have og := Lib.hid H.og
      have k5 := H.k5
      have hk0 : (0 : Int) ≤ k := by omega
      have hk3 : (k : Int) < rs1.length := by omega
      have ngw : Hid (g ≠ w.heap.size ∧ g ≠ b) := ⟨by have := H.og.2; omega, H.gb⟩
      have HCh := Lib.hid hch
      clear hst hK hch BIr BTr BOr hIr H hRk
      generalize rs1[k].step L.routes[k] occ lies = y at *
      generalize rs1[k] = x at *
      obtain ⟨ym, yt, yg, ys⟩ := y
      dsimp only [RS.agg] at HSt
      go_wp2_with fail
      go_region_held3 (fun W' => W'.cell? ⟨b, 4, none⟩ = some (.slice (some ⟨g, 0, none⟩) rs1.length c5') ∧ W'.cell? ⟨w.heap.size, 0, none⟩ = some v1 ∧ W'.cell? ⟨w.heap.size, 0 + 1, none⟩ = some v2)
        (first | exact HS.out _ (Ch.refl _ _).drew | exact HS.out _ ((Ch.refl _ _).drew.trans c4) | exact HSS.out _ (((((((Ch.refl _ _).drew.trans c4).mono fun _ _ h => h.elim).set1 _ _).set1 _ _).set1 _ _).set1 _ _))
        ((go_at_call 150; refine HSt.out.mono ?_; rintro e w4 ⟨rfl, c4⟩; obtain ⟨⟨z0, z1, z2, z3⟩, f0, f1, f2, f3⟩ := HF.out w4 ((Ch.refl _ _).drew.trans c4)))
      go_wp2_with fail
      go_roundw
      case rel =>
        have c4' : Ch Noone wr w4 := (Ch.refl _ _).drew.trans c4
        obtain ⟨hp1, hp2⟩ := HPut.out w4 c4' ⟨ym, yt, yg, ys⟩ HR.out
        exact ⟨k + 1, _, by omega, by go_num, HNx.out, hp1, HCh.out.trans ((c4'.mono fun _ _ h => h.elim).trans (hp2.mono fun _ _ e => e ▸ og.out))⟩
      case measure => simp [intOf]; omega
    · have hkk : k = rs.length := by omega
      have HSt := Lib.hid (hkk ▸ hst : Stp L occ lies rs rs.length rs1)
      have hlen1 : rs1.length = rs.length := hst.len
      clear hkk hst
      have sz3 : w0.heap.size ≤ wr.heap.size := Nat.le_trans C2.out.size (Nat.le_trans C3.out.size hch.size)
      have hDr := ((HD2.out.ch (S := Noone) C3.out (fun _ _ _ h => h)).ch hch (fun g hg _ e => by have h1 : w0.heap.size ≤ g := hg; have h2 := e.2; have h3 := SZ0.out; omega)).tight
      have hPr := (HP2.out.ch (S := Noone) C3.out (fun _ _ _ h => h)).ch hch (fun g hg _ e => by have h1 : w0.heap.size ≤ g := hg.1; have h2 := e.2; have h3 := SZ0.out; omega)
      have hdl : (List.replicate L.pts.length (0 : Int)).length = L.pts.length := List.length_replicate
      have HDv := Lib.hid (drives_any _ _ (fun g => New w0.heap.size g ∧ (Value.slice da L.pts.length dc).ownBlock = some g) wr b L rs1 _ occ lies _ (.slice pa L.sigs.length pc) (List.replicate L.pts.length 0) hK OK.out hIr HO.out HL.out (by rw [hdl]; exact hDr) hdl (fun g hg => ⟨fun e => by have h1 : w0.heap.size ≤ g := hg.1; have h2 := e.2; have h3 := SZ0.out; omega, fun e => by have h1 : w0.heap.size ≤ g := hg.1; have h2 := e.2; have h3 := SZ0.out; omega⟩))
      have x0 : wr.cell? ⟨w.heap.size, 0, none⟩ = some v1 := BIr.cell 0
      have x1 : wr.cell? ⟨w.heap.size, 1, none⟩ = some v2 := BIr.cell 1
      have x2 : wr.cell? ⟨w1.heap.size, 0, none⟩ = some (.slice da L.pts.length dc) := BTr.cell 0
      have x3 : wr.cell? ⟨w1.heap.size, 1, none⟩ = some (.slice pa L.sigs.length pc) := BTr.cell 1
      have HCh := Lib.hid hch
      have BIr' := Lib.hid BIr
      have BTr' := Lib.hid BTr
      have BOr' := Lib.hid BOr
      have HK' := Lib.hid hK
      have HIr := Lib.hid hIr
      have HPr := Lib.hid hPr
      clear hch BIr BTr BOr hK hIr hDr hPr hdl
      go_wp2_with fail
      refine HDv.out.mono ?_
      rintro e w5 ⟨rfl, ⟨d, hdv, hod⟩, c5⟩
      have DN : Hid (∀ g, (Value.slice da L.pts.length dc).ownBlock = some g → w0.heap.size ≤ g ∧ (Value.slice pa L.sigs.length pc).ownBlock ≠ some g) := fun g hg => by
        have h1 := hod.blkOf g hg
        refine ⟨h1.1.1, fun e => ?_⟩
        have h2 := HPr.out.blkOf g e
        exact h2.1.2 hg
      have HDd := Lib.hid hdv
      have HOd := Lib.hid hod
      have C5 := Lib.hid c5
      have sz5 : wr.heap.size ≤ w5.heap.size := c5.size
      have BI5 := Lib.hid (c5.blk BIr'.out (fun e => by have h1 := (DN.out _ e).1; have h3 := SZ0.out; omega))
      have BO5 := Lib.hid (c5.blk BOr'.out (fun e => by have h1 := (DN.out _ e).1; have h3 := SZ0.out; omega))
      have h1lt : w1.heap.size < wr.heap.size := BTr'.out.lt
      have BT5 : Hid (Blk w5 w1.heap.size 36 #[.slice da L.pts.length dc, .slice pa L.sigs.length pc]) := c5.blk BTr'.out (fun e => by
        have h1 := DLt.out _ e
        omega)
      have hK5 := HK'.out.ch c5 (fun g hg _ e => by have h1 := (DN.out _ e).1; have h2 := hg.2; have h3 := SZ0.out; omega)
      have hI5 := HIr.out.ch c5 (fun g hg _ e => by have h1 := (DN.out _ e).1; have h2 := hg.2; have h3 := SZ0.out; omega)
      have hP5 := HPr.out.ch c5 (fun g hg _ e => hg.2 e)
      obtain ⟨q1, q2, q3, q4, q5, hb, hL, h5⟩ := hK5.blkOf
      obtain ⟨a5, c6, rfl, -, -, -, -⟩ := id h5
      have x4 : w5.cell? ⟨b, 4, none⟩ = some (.slice a5 rs1.length c6) := hb.cell 4
      have HK5 := Lib.hid hK5
      have HI5 := Lib.hid hI5
      have HP5 := Lib.hid hP5
      have HL5 := Lib.hid hL
      have HB5 := Lib.hid hb
      have HS5 := Lib.hid h5
      have hnl : rs1.length = L.routes.length := hK5.2.1.len
      have HNl := Lib.hid hnl
      have hn61 : rs1.length ≤ 6 := by omega
      have HLn := Lib.hid hlen1
      clear hdv hod c5 x0 x1 x2 x3 hK5 hI5 hP5 hL hb h5 HDv BIr' BTr' BOr' HK' HIr hlen1 hnl
      have hz0 : (List.replicate L.sigs.length false).length = L.sigs.length := List.length_replicate
      go_wp2_with fail
      go_loopw [52] (fun i wr => ∃ (k : Nat) (p1 : List Bool), k ≤ rs1.length ∧ i = .int .i64 k ∧ Prc L rs1 occ lies (List.replicate L.sigs.length false) k p1 ∧ Own (fun g => New w0.heap.size g ∧ (Value.slice da L.pts.length dc).ownBlock ≠ some g) wr 4 1 (.slice pa L.sigs.length pc) p1.length (p1.flatMap fB) ∧ Ch (fun g => (Value.slice pa L.sigs.length pc).ownBlock = some g) w5 wr) (fun i _ => (rs1.length - intOf i).toNat)
      case atStart => exact ⟨0, List.replicate L.sigs.length false, by omega, rfl, ⟨rfl, fun _ => rfl, fun r h h2 hr => absurd hr (by omega)⟩, by rw [hz0]; exact HP5.out, Ch.refl _ _⟩
      case round =>
        clear x4
        obtain ⟨k, p1, hk, rfl, hpr, hop, hch⟩ := hrel
        have SZw : w.heap.size ≤ wr.heap.size := by have h1 := SZ0.out; have h2 := hch.size; omega
        have hKr := HK5.out.ch hch (fun g hg _ e => by have h1 := (PLt.out _ e).1; have h2 := hg.2; have h3 := SZ0.out; omega)
        have hIr := HI5.out.ch hch (fun g hg _ e => by have h1 := (PLt.out _ e).1; have h2 := hg.2; have h3 := SZ0.out; omega)
        have hLr := HL5.out.ch hch (fun g hg _ e => by have h1 := (PLt.out _ e).1; have h2 := hg.2; have h3 := SZ0.out; omega)
        have hBr := hch.blk HB5.out (fun e => by have h1 := (PLt.out _ e).1; have h2 := HK5.out.1.2; have h3 := SZ0.out; omega)
        have hSr := HS5.out.ch hch (fun g hg _ e => by have h1 := (PLt.out _ e).1; have h2 := hg.1.2; have h3 := SZ0.out; omega)
        have BIr := hch.blk BI5.out (fun e => by have h1 := (PLt.out _ e).1; have h3 := SZ0.out; omega)
        have BOr := hch.blk BO5.out (fun e => by have h1 := (PLt.out _ e).1; have h3 := SZ0.out; omega)
        have BTr := hch.blk BT5.out (fun e => by have h1 := (PLt.out _ e).2; omega)
        have HPrc := Lib.hid hpr
        have hplen : p1.length = L.sigs.length := by rw [hpr.len]; exact hz0
        by_cases hkl : k < rs1.length
        · have hk2 : k < L.routes.length := by rw [← HNl.out]; exact hkl
          obtain ⟨g5, o5, rfl, -, hg5, hat⟩ := hSr.at (f := fRS) (C := 4) (fun _ => rfl) (by omega) hkl
          have y0 : wr.cell? ⟨g5, o5 + k * 4, none⟩ = some (.int .i64 rs1[k].mode) := hat 0 (by omega)
          have y1 : wr.cell? ⟨g5, o5 + k * 4 + 1, none⟩ = some (.int .i64 rs1[k].timer) := hat 1 (by omega)
          have y2 : wr.cell? ⟨g5, o5 + k * 4 + 2, none⟩ = some (.int .i64 rs1[k].gone) := hat 2 (by omega)
          have y3 : wr.cell? ⟨g5, o5 + k * 4 + 3, none⟩ = some (.bool rs1[k].seen) := hat 3 (by omega)
          obtain ⟨b4, o4, c4, u1, u2, u3, rfl, hc4, -, hb4, r0, r1, r2, r3, r4, r5, s1, s2, s3⟩ := hLr.route hk2
          obtain ⟨ua1, uc1, rfl, -, -, -, -⟩ := id s1
          obtain ⟨ua2, uc2, rfl, -, -, -, -⟩ := id s2
          obtain ⟨ua3, uc3, rfl, -, -, -, -⟩ := id s3
          have z3 : wr.cell? ⟨b, 3, none⟩ = some (.slice (some ⟨b4, o4, none⟩) L.routes.length c4) := hBr.cell 3
          have zb := hBr.lt
          have x0 : wr.cell? ⟨w.heap.size, 0, none⟩ = some v1 := BIr.cell 0
          have x1 : wr.cell? ⟨w.heap.size, 1, none⟩ = some v2 := BIr.cell 1
          have xl := BIr.lt
          have hk0 : (0 : Int) ≤ k := by omega
          have hk1 : (k : Int) < rs1.length := by omega
          have hk3 : (k : Int) < L.routes.length := by omega
          obtain ⟨w6, hw6⟩ : ∃ w6, w6 = (wr.alloc (.cells #[.int .i64 rs1[k].mode, .int .i64 rs1[k].timer, .int .i64 rs1[k].gone, .bool rs1[k].seen] 168)).alloc (.cells #[.string L.routes[k].name, .int .i64 L.routes[k].frm, .int .i64 L.routes[k].to, .slice ua1 L.routes[k].path.length uc1, .slice ua2 L.routes[k].pts.length uc2, .slice ua3 L.routes[k].flank.length uc3] 54) := ⟨_, rfl⟩
          have c6 : Ch Noone wr w6 := by rw [hw6]; exact ((Ch.refl _ _).alloc _).alloc _
          have bw6 : Blk w6 (wr.heap.size + 1) 54 #[.string L.routes[k].name, .int .i64 L.routes[k].frm, .int .i64 L.routes[k].to, .slice ua1 L.routes[k].path.length uc1, .slice ua2 L.routes[k].pts.length uc2, .slice ua3 L.routes[k].flank.length uc3] := by rw [hw6]; exact Blk.new2 _ _ _ _
          have HPO : Hid (∀ x ∈ L.routes[k].path, 0 ≤ x ∧ x < occ.length) := fun x hx => by
            have := (OK.out.route _ (List.getElem_mem hk2)).path.1 x hx
            rw [HO.out]; exact this
          have HPL : Hid (L.routes[k].path.length ≤ 100) := by have := (OK.out.route _ (List.getElem_mem hk2)).path.2.2.2; show _ ≤ _; omega
          have HOc := Lib.hid (isOcc_any _ _ w6 _ _ occ lies L.routes[k].path (hIr.ch0 c6) (s1.ch0 c6) (by rw [HO.out]; have := OK.out.s1; omega) HPL.out HPO.out)
          have HAl : Hid (∀ W, Ch Noone w6 W → _) := fun W c => allLie_any _ _ W b L rs1 _ occ lies k ((hKr.ch0 c6).ch0 c) OK.out ((hIr.ch0 c6).ch0 c) HL.out hk2
          have HW6 := Lib.hid hw6
          have C6 := Lib.hid c6
          have BW6 := Lib.hid bw6
          have BI6 := Lib.hid (c6.blk BIr (fun h => h))
          have BT6 := Lib.hid (c6.blk BTr (fun h => h))
          have HP6 := Lib.hid (hop.ch (S := Noone) c6 (fun _ _ _ h => h))
          have HCh := Lib.hid hch
          have HM : Hid (∀ m, rs1[k].mode = m → rs1[k].mode = m) := fun _ h => h
          have hn61 : L.routes.length ≤ 6 := OK.out.r1
          have HNo : Hid ((rs1[k].mode = 2 → L.routes[k].path.any (occB occ) = false → L.routes[k].needs.all (lieB lies) = true → False) → ∀ W, Ch Noone w6 W → (∃ (k' : Nat) (p1' : List Bool), k' ≤ rs1.length ∧ Value.int .i64 ((k : Int) + 1) = .int .i64 k' ∧ Prc L rs1 occ lies (List.replicate L.sigs.length false) k' p1' ∧ Own (fun g => New w0.heap.size g ∧ (Value.slice da L.pts.length dc).ownBlock ≠ some g) W 4 1 (.slice pa L.sigs.length pc) p1'.length (p1'.flatMap fB) ∧ Ch (fun g => (Value.slice pa L.sigs.length pc).ownBlock = some g) w5 W)) := fun hn W c =>
            ⟨k + 1, p1, by omega, by go_num, hpr.skip fun _ _ => hn, HP6.out.ch c (fun _ _ _ h => h), (hch.then c6 (fun _ _ h => h.elim)).then c (fun _ _ h => h.elim)⟩
          clear hat hw6 c6 bw6 hKr hIr hLr hBr hSr BIr BOr BTr hop hch s1 s2 s3 hpr
          by_cases hm : rs1[k].mode = 2
          · have HMo := Lib.hid hm
            rw [hm] at y0
            have hw6' := HW6.out
            rw [hm] at hw6'
            have HW6' := Lib.hid hw6'
            have HPut : Hid (L.routes[k].path.any (occB occ) = false → L.routes[k].needs.all (lieB lies) = true → Prc L rs1 occ lies (List.replicate L.sigs.length false) (k + 1) (p1.set L.routes[k].frm.toNat true)) := fun _ _ => HPrc.out.put hkl hk2 hm (by rw [hplen]; have h1 := (OK.out.route _ (List.getElem_mem hk2)).f0; have h2 := (OK.out.route _ (List.getElem_mem hk2)).f1; omega)
            obtain ⟨f0, f1⟩ : 0 ≤ L.routes[k].frm ∧ L.routes[k].frm < L.sigs.length := ⟨(OK.out.route _ (List.getElem_mem hk2)).f0, (OK.out.route _ (List.getElem_mem hk2)).f1⟩
            clear hm hw6' HW6
            generalize L.routes[k].path.any (occB occ) = oc at *
            generalize L.routes[k].needs.all (lieB lies) = al at *
            go_wp2_with fail
            rw [← HW6'.out]
            refine HOc.out.mono ?_
            rintro e w7 ⟨rfl, c7⟩
            cases oc
            · have bi7 := c7.blk BI6.out (fun h => h)
              have x0 : w7.cell? ⟨w.heap.size, 0, none⟩ = some v1 := bi7.cell 0
              have x1 : w7.cell? ⟨w.heap.size, 1, none⟩ = some v2 := bi7.cell 1
              have HAl7 := Lib.hid (HAl.out w7 c7)
              clear bi7
              go_wp2_with fail
              refine HAl7.out.mono ?_
              rintro e w8 ⟨rfl, c8⟩
              have C8 : Hid (Ch Noone w6 w8) := c7.trans c8
              cases al
              · have HF := Lib.hid (HNo.out (fun _ _ h => absurd h (by decide)) w8 C8.out)
                go_wp2_with fail
                go_roundw
                case rel => exact HF.out
                case measure => simp [intOf]; omega
              · have HPu := Lib.hid (HPut.out trivial rfl)
                obtain ⟨fr, hfr⟩ : ∃ fr : Nat, L.routes[k].frm = fr := ⟨L.routes[k].frm.toNat, by omega⟩
                rw [hfr] at f0 f1 HPu
                rw [Int.toNat_natCast] at HPu
                have hfl : fr < p1.length := by rw [hplen]; omega
                have hp8 := HP6.out.ch (S := Noone) C8.out (fun _ _ _ h => h)
                obtain ⟨pg, rfl, -, hpg⟩ := hp8.isSome (by omega)
                obtain ⟨cur, hcur⟩ := hp8.blk
                rw [hplen] at hp8
                obtain ⟨bq, oq, eq, -, hbq, hat⟩ := hp8.sl.at (f := fB) (C := 1) (fun _ => rfl) (by omega) hfl
                simp only [Option.some.injEq, Addr.mk.injEq, and_true] at eq
                obtain ⟨rfl, rfl⟩ := eq
                have ya := hat 0 (by omega)
                rw [Nat.zero_add, Nat.mul_one] at ya
                have ya2 : w8.cell? ⟨pg, fr, none⟩ = some (.bool p1[fr]) := ya
                generalize p1[fr] = pf at ya2
                have fz : w8.frozen? ⟨pg, fr, none⟩ = false := hcur.free fr
                have bt8 := C8.out.blk BT6.out (fun h => h)
                have br8 := C8.out.blk BW6.out (fun h => h)
                have z4 : w8.cell? ⟨w1.heap.size, 1, none⟩ = some (.slice (some ⟨pg, 0, none⟩) L.sigs.length pc) := bt8.cell 1
                have z5 : w8.cell? ⟨wr.heap.size + 1, 1, none⟩ = some (.int .i64 fr) := by rw [← hfr]; exact br8.cell 1
                have HPw : Hid (Own (fun g => New w0.heap.size g ∧ (Value.slice da L.pts.length dc).ownBlock ≠ some g) (w8.setCell ⟨pg, fr, none⟩ (.bool true)) 4 1 (.slice (some ⟨pg, 0, none⟩) L.sigs.length pc) (p1.set fr true).length ((p1.set fr true).flatMap fB)) := by
                  have h2 := Own.put (f := fB) (C := 1) (fun _ => rfl) (by omega) hp8 hplen (k := fr) (by omega) true
                  rw [List.length_set, hplen]
                  rw [Nat.mul_one] at h2
                  exact h2
                clear hat ya hcur hp8 bt8 br8
                go_wp2_with fail
                go_roundw
                case rel => exact ⟨k + 1, p1.set fr true, by omega, by go_num, HPu.out, HPw.out, ((HCh.out.then C6.out (fun _ _ h => h.elim)).then C8.out (fun _ _ h => h.elim)).trans (Ch.set (S := fun g => (Value.slice (some ⟨pg, 0, none⟩) L.sigs.length pc).ownBlock = some g) (Ch.refl _ w8) (b := pg) (fun _ => rfl) fr (.bool true))⟩
                case measure => simp [intOf]; omega
            · have HF := Lib.hid (HNo.out (fun _ h => absurd h (by decide)) w7 c7)
              go_wp2_with fail
              go_roundw
              case rel => exact HF.out
              case measure => simp [intOf]; omega
          · have HF := Lib.hid (HNo.out (fun h => absurd h hm))
            have hm' : (rs1[k].mode == 2) = false := by simpa using hm
            clear hm
            go_wp2_with fail
            rw [← HW6.out]
            go_roundw
            case rel => exact HF.out _ (Ch.refl _ _)
            case measure => simp [intOf]; omega
        · have hkk : k = rs1.length := by omega
          have x2 : wr.cell? ⟨w1.heap.size, 0, none⟩ = some (.slice da L.pts.length dc) := BTr.cell 0
          have x3 : wr.cell? ⟨w1.heap.size, 1, none⟩ = some (.slice pa L.sigs.length pc) := BTr.cell 1
          have t0 : wr.cell? ⟨w.heap.size + 1, 0, none⟩ = some (.slice none 0 0) := BOr.cell 0
          have t1 : wr.cell? ⟨w.heap.size + 1, 1, none⟩ = some (.slice none 0 0) := BOr.cell 1
          have f0 := BOr.free 0
          have f1 := BOr.free 1
          have HPrF := Lib.hid (hkk ▸ HPrc.out : Prc L rs1 occ lies (List.replicate L.sigs.length false) rs1.length p1)
          have hx : Blk ((wr.setCell ⟨w.heap.size + 1, 0, none⟩ (.slice da L.pts.length dc)).setCell ⟨w.heap.size + 1, 1, none⟩ (.slice pa L.sigs.length pc)) (w.heap.size + 1) 36 #[.slice da L.pts.length dc, .slice pa L.sigs.length pc] := by
            have := (BOr.set 0 (.slice da L.pts.length dc)).set 1 (.slice pa L.sigs.length pc)
            simpa using this
          have HX := Lib.hid hx
          have cx : Ch (fun g => g = w.heap.size + 1) wr ((wr.setCell ⟨w.heap.size + 1, 0, none⟩ (.slice da L.pts.length dc)).setCell ⟨w.heap.size + 1, 1, none⟩ (.slice pa L.sigs.length pc)) := ((Ch.refl _ _).set1 _ _).set1 _ _
          have HFin : Hid (∃ u d p rs', Ending.returned (.agg #[.slice da L.pts.length dc, .slice pa L.sigs.length pc]) = .returned u ∧ OutAt (New w.heap.size) ((wr.setCell ⟨w.heap.size + 1, 0, none⟩ (.slice da L.pts.length dc)).setCell ⟨w.heap.size + 1, 1, none⟩ (.slice pa L.sigs.length pc)) u d p ∧ LockAt O ((wr.setCell ⟨w.heap.size + 1, 0, none⟩ (.slice da L.pts.length dc)).setCell ⟨w.heap.size + 1, 1, none⟩ (.slice pa L.sigs.length pc)) b L rs' ∧ Stp L occ lies rs rs.length rs' ∧
              Drv L rs' occ lies (List.replicate L.pts.length 0) rs'.length d ∧ Prc L rs' occ lies (List.replicate L.sigs.length false) rs'.length p ∧ Ch O w ((wr.setCell ⟨w.heap.size + 1, 0, none⟩ (.slice da L.pts.length dc)).setCell ⟨w.heap.size + 1, 1, none⟩ (.slice pa L.sigs.length pc))) := by
            have h3 := SZ0.out
            refine ⟨_, d, p1, rs1, rfl, ⟨_, _, rfl, ?_, ?_⟩, (hKr.ch cx (fun g hg _ e => by have h2 := hg.2; omega)).mono fun g hg _ => hg.1, HSt.out, HDd.out, HPrF.out, ?_⟩
            · refine ((HOd.out.ch hch (fun g hg _ e => (DN.out g hg.2).2 e)).ch cx (fun g hg _ e => by have h1 : w0.heap.size ≤ g := hg.1; omega)).mono fun g hg _ => by have h1 : w0.heap.size ≤ g := hg.1; show w.heap.size ≤ g; omega
            · refine (hop.ch cx (fun g hg _ e => by have h1 : w0.heap.size ≤ g := hg.1; omega)).mono fun g hg _ => ⟨by have h1 : w0.heap.size ≤ g := hg.1; show w.heap.size ≤ g; omega, hg.2⟩
            · have k1 : Ch O w w3 := (C0.out.trans (C2.out.trans C3.out)).mono fun _ _ h => h.elim
              have k2 : Ch (fun g => w.heap.size ≤ g) w5 ((wr.setCell ⟨w.heap.size + 1, 0, none⟩ (.slice da L.pts.length dc)).setCell ⟨w.heap.size + 1, 1, none⟩ (.slice pa L.sigs.length pc)) := (hch.mono fun g _ e => by have h1 := (PLt.out _ e).1; show w.heap.size ≤ g; omega).then cx fun g _ e => by show w.heap.size ≤ g; omega
              refine ((k1.trans (HCh.out.mono fun g _ h => h.1)).then C5.out fun g hg e => ?_).then k2 fun g hg e => ?_
              · have h1 := (DN.out g e).1; omega
              · have h1 : w.heap.size ≤ g := e; omega
          clear BTr BOr hx cx hKr hop hch hpr HPrc BIr hLr hBr hSr hIr
          go_wp2_with fail
          refine bodyPost_ret (results_cell_row (P := Tryz.prog) rfl _ _ (w.heap.size + 1) _ _ _ _ rfl HX.out Tryz.underlying36 rfl (by kernel_rfl)) rfl ?_
          exact HFin.out
end Go.Proofs.YtkplgggdidhnoaaGreatDoor
