/-
  lock: isFree: what it tells. Conditions: sizes. lock: call, cancel, Command: what they do. Conditions: sizes.
-/
import Derived.Test.YtkplgggdidhnoaaGreatDoorM23
import Derived.Test.YtkplgggdidhnoaaGreatDoorM16
namespace Go.Proofs.YtkplgggdidhnoaaGreatDoor
open Go.ChangeShapes Go.WideShapes Go.ChangeAt Go.RowKit
set_option linter.unusedVariables false

theorem LayAt.pnt {B : Nat → Prop} {w : World} {q1 q2 q3 q4 : Value} {L : Lay} (h : LayAt B w (.agg #[q1, q2, q3, q4]) L) {p : Nat} (hp : p < L.pts.length) :
    ∃ b off c, q2 = .slice (some ⟨b, off, none⟩) L.pts.length c ∧ L.pts.length ≤ c ∧ B b ∧ b < w.heap.size ∧ w.cell? ⟨b, off + p * 2, none⟩ = some (.string L.pts[p].name) ∧ w.cell? ⟨b, off + p * 2 + 1, none⟩ = some (.int .i64 L.pts[p].sec) := by
  obtain ⟨v1, v2, v3, v4, rs, e, -, h2, -, -, -, -⟩ := h
  simp only [Value.agg.injEq, Array.mk.injEq, List.cons.injEq, and_true] at e
  obtain ⟨rfl, rfl, rfl, rfl⟩ := e
  obtain ⟨a2, c2, rfl, hc, -, -, -⟩ := id h2
  obtain ⟨b, off, rfl, hB, hlt, hat⟩ := h2.at (f := fPnt) (C := 2) (fun _ => rfl) (by omega) hp
  exact ⟨b, off, c2, rfl, hc, hB, hlt, hat 0 (by omega), hat 1 (by omega)⟩

theorem InR.occ {B : Nat → Prop} {w : World} {v1 v2 : Value} {occ : List Bool} {lies : List Int} (h : InR B w (.agg #[v1, v2]) occ lies) {k : Nat} (hk : k < occ.length) :
    ∃ b off c, v1 = .slice (some ⟨b, off, none⟩) occ.length c ∧ occ.length ≤ c ∧ B b ∧ b < w.heap.size ∧ w.cell? ⟨b, off + k, none⟩ = some (.bool occ[k]) := by
  obtain ⟨a1, a2, e, s1, -⟩ := h
  simp only [Value.agg.injEq, Array.mk.injEq, List.cons.injEq, and_true] at e
  obtain ⟨rfl, rfl⟩ := e
  obtain ⟨a, c, rfl, hc, -, -, -⟩ := id s1
  obtain ⟨b, off, rfl, hB, hlt, hat⟩ := s1.at (f := fB) (C := 1) (fun _ => rfl) (by omega) hk
  have := hat 0 (by omega)
  rw [Nat.mul_one] at this
  exact ⟨b, off, c, rfl, hc, hB, hlt, this⟩

theorem needs_in {L : Lay} (ok : LayOk L) {r : Nat} (hr : r < L.routes.length) : ∀ n ∈ L.routes[r].needs, 0 ≤ n.pt ∧ n.pt < L.pts.length := fun n hn => by
  have hro := ok.route _ (List.getElem_mem hr)
  rcases List.mem_append.1 hn with h | h
  · exact ⟨(hro.pts.1 n h).1, (hro.pts.1 n h).2.1⟩
  · exact ⟨(hro.flank.1 n h).1, (hro.flank.1 n h).2.1⟩

def Clear (rs : List RS) (occ : List Bool) : Prop := AllIdle rs ∧ ∀ x ∈ occ, x = false

set_option maxRecDepth 100000 in
set_option maxHeartbeats 4000000 in
theorem isFree_any (O B : Nat → Prop) (w : World) (b : Nat) (L : Lay) (rs : List RS) (v : Value) (occ : List Bool) (lies : List Int) (r : Nat) (h : LockAt O w b L rs) (ok : LayOk L) (hI : InR B w v occ lies) (ho : occ.length = L.secs.length) (hl : lies.length = L.pts.length) (hr : r < L.routes.length) :
    Calls Tryz.prog 158 #[.pointer (some ⟨b, 0, none⟩), v, .int .i64 r] w fun e w' => ∃ t : Bool, e = .returned (.bool t) ∧ (Clear rs occ → t = true) ∧ Ch Noone w w' := by
  obtain ⟨v1, v2, rfl, -, -⟩ := id hI
  have hr' : r < rs.length := by rw [h.2.1.len]; exact hr
  obtain ⟨q1, q2, q3, b4, o4, c4, g, c5, pa, pc, H⟩ := h.at hr' hr
  have l4 : w.cell? ⟨b, 4, none⟩ = some (.slice (some ⟨g, 0, none⟩) rs.length c5) := H.blk.cell 4
  have hbl := H.blk.lt
  have HH := Lib.hid H
  have HK := Lib.hid h
  have OK := Lib.hid ok
  have HI := Lib.hid hI
  have HO := Lib.hid ho
  have HL := Lib.hid hl
  have hn : rs.length ≤ 6 := by rw [h.2.1.len]; exact ok.r1
  obtain ⟨w0, hw0⟩ : ∃ w0, w0 = w.alloc (.cells #[v1, v2] 133) := ⟨_, rfl⟩
  have c0 : Ch Noone w w0 := by rw [hw0]; exact (Ch.refl _ _).alloc _
  have bi : Blk w0 w.heap.size 133 #[v1, v2] := by rw [hw0]; exact Blk.new _ _ _
  have HW0 := Lib.hid hw0
  have C0 := Lib.hid c0
  have BI := Lib.hid bi
  have hr0 : (0 : Int) ≤ r := by omega
  have hr1 : (r : Int) < rs.length := by omega
  clear h ok hI ho hl H hw0 c0 bi
  go_enter Tryz.func158, Tryz.ntmps158
  go_wp2_with fail
  rw [← HW0.out]
  go_loopw [17] (fun i wr => ∃ k : Nat, k ≤ rs.length ∧ i = .int .i64 k ∧ Ch Noone w0 wr) (fun i _ => (rs.length - intOf i).toNat)
  case atStart => exact ⟨0, by omega, rfl, Ch.refl _ _⟩
  case round =>
    clear l4 hbl
    obtain ⟨k, hk, rfl, hch⟩ := hrel
    have CW := Lib.hid (C0.out.trans hch)
    by_cases hkl : k < rs.length
    · have hkl' : k < L.routes.length := by rw [← HK.out.2.1.len]; exact hkl
      have hat : ∀ j, j < 4 → wr.cell? ⟨g, k * 4 + j, none⟩ = (fRS rs[k])[j]? := fun j hj => by
        obtain ⟨b', off, e, -, hlt, hat⟩ := HH.out.own.sl.at (f := fRS) (C := 4) (fun _ => rfl) (by omega) hkl
        simp only [Option.some.injEq, Addr.mk.injEq, and_true] at e
        obtain ⟨rfl, rfl⟩ := e
        have := hat j hj
        rw [Nat.zero_add] at this
        exact (CW.out.rd hlt _).trans this
      have y0 : wr.cell? ⟨g, k * 4, none⟩ = some (.int .i64 rs[k].mode) := hat 0 (by omega)
      have y1 : wr.cell? ⟨g, k * 4 + 1, none⟩ = some (.int .i64 rs[k].timer) := hat 1 (by omega)
      have y2 : wr.cell? ⟨g, k * 4 + 2, none⟩ = some (.int .i64 rs[k].gone) := hat 2 (by omega)
      have y3 : wr.cell? ⟨g, k * 4 + 3, none⟩ = some (.bool rs[k].seen) := hat 3 (by omega)
      have hgl := Nat.lt_of_lt_of_le HH.out.lg CW.out.size
      have hk0 : (0 : Int) ≤ k := by omega
      have hk1 : (k : Int) < rs.length := by omega
      have HM : Hid (rs[k].mode ≠ 0 → ¬ Clear rs occ) := fun hm hc => hm (hc.1 _ (List.getElem_mem hkl))
      have bW := CW.out.blk HH.out.blk (fun h => h)
      have z0 : wr.cell? ⟨b, 0, none⟩ = some q1 := bW.cell 0
      have z1 : wr.cell? ⟨b, 0 + 1, none⟩ = some q2 := bW.cell 1
      have z2 : wr.cell? ⟨b, 0 + 2, none⟩ = some q3 := bW.cell 2
      have z3 : wr.cell? ⟨b, 0 + 3, none⟩ = some (.slice (some ⟨b4, o4, none⟩) rs.length c4) := bW.cell 3
      have zb := bW.lt
      clear hat bW
      generalize rs[k] = x at *
      obtain ⟨xm, xt, xg, xs⟩ := x
      dsimp only at *
      by_cases hm : xm = 0
      · have hm' : (xm != 0) = false := by simpa using hm
        clear hm
        go_wp2_with fail
        go_roundw
        case rel => exact ⟨k + 1, by omega, by go_num, hch.alloc _⟩
        case measure => simp [intOf]; omega
      · have hm' : (xm != 0) = true := by simpa using hm
        have HM' := Lib.hid (HM.out hm)
        clear hm HM
        obtain ⟨w1, hw1⟩ : ∃ w1, w1 = wr.alloc (.cells #[.int .i64 xm, .int .i64 xt, .int .i64 xg, .bool xs] 168) := ⟨_, rfl⟩
        have c1 : Ch Noone wr w1 := by rw [hw1]; exact (Ch.refl _ _).alloc _
        have HW1 := Lib.hid hw1
        have C1 := Lib.hid c1
        clear hw1 c1
        go_wp2_with fail
        rw [← HW1.out]
        refine (conflict_any _ w1 _ L r k (HH.out.lay.ch0 (CW.out.trans C1.out)) OK.out hr hkl').mono ?_
        rintro e w2 ⟨t, rfl, c2⟩
        cases t
        · go_wp2_with fail
          go_roundw
          case rel => exact ⟨k + 1, by omega, by go_num, (hch.trans C1.out).trans c2⟩
          case measure => simp [intOf]; omega
        · go_wp2_with fail
          go_ret
          exact ⟨false, rfl, fun h => absurd h HM'.out, (CW.out.trans C1.out).trans c2⟩
    · have bW := CW.out.blk HH.out.blk (fun h => h)
      have z0 : wr.cell? ⟨b, 0, none⟩ = some q1 := bW.cell 0
      have z1 : wr.cell? ⟨b, 1, none⟩ = some q2 := bW.cell 1
      have z2 : wr.cell? ⟨b, 2, none⟩ = some q3 := bW.cell 2
      have z3 : wr.cell? ⟨b, 3, none⟩ = some (.slice (some ⟨b4, o4, none⟩) rs.length c4) := bW.cell 3
      clear bW
      go_wp2_with fail
      refine (needs_any _ wr _ L r (HH.out.lay.ch0 CW.out) OK.out hr).mono ?_
      rintro e w1 ⟨vn, rfl, ho, c1⟩
      have HNS := Lib.hid ho
      have NIn := Lib.hid (needs_in OK.out hr)
      have NLe := needs_le100 OK.out hr
      obtain ⟨an, cn, rfl, -, -, -, -⟩ := ho.sl
      have C1 := Lib.hid (hch.trans c1)
      clear ho z0 z1 z2 z3 c1 hch CW hk
      generalize L.routes[r].needs = ns at *
      go_wp2_with fail
      go_loopw [42] (fun i wr => ∃ k : Nat, k ≤ ns.length ∧ i = .int .i64 k ∧ Ch Noone w1 wr) (fun i _ => (ns.length - intOf i).toNat)
      case atStart => exact ⟨0, by omega, rfl, Ch.refl _ _⟩
      case round =>
        obtain ⟨k, hk, rfl, hch⟩ := hrel
        have CV := Lib.hid (C1.out.trans hch)
        have CW := Lib.hid (C0.out.trans CV.out)
        by_cases hkl : k < ns.length
        · obtain ⟨bn, on, rfl, -, hbn, hat⟩ := (HNS.out.sl.ch0 hch).at (f := fNeed) (C := 2) (fun _ => rfl) (by omega) hkl
          have y0 : wr.cell? ⟨bn, on + k * 2, none⟩ = some (.int .i64 ns[k].pt) := hat 0 (by omega)
          have y1 : wr.cell? ⟨bn, on + k * 2 + 1, none⟩ = some (.bool ns[k].rev) := hat 1 (by omega)
          obtain ⟨n0, n1⟩ := NIn.out ns[k] (List.getElem_mem hkl)
          have hk0 : (0 : Int) ≤ k := by omega
          have hk1 : (k : Int) < ns.length := by omega
          clear hat
          generalize ns[k] = n at *
          obtain ⟨np, nr⟩ := n
          dsimp only at *
          obtain ⟨q, rfl⟩ : ∃ q : Nat, np = q := ⟨np.toNat, by omega⟩
          have hq : q < L.pts.length := by omega
          obtain ⟨b2, o2, c2, rfl, -, -, hb2, -, sc⟩ := HH.out.lay.pnt hq
          obtain ⟨s0, s1⟩ := OK.out.sec _ (List.getElem_mem hq)
          obtain ⟨w2, hw2⟩ : ∃ w2, w2 = wr.alloc (.cells #[.int .i64 q, .bool nr] 48) := ⟨_, rfl⟩
          have cw2 : Ch Noone wr w2 := by rw [hw2]; exact (Ch.refl _ _).alloc _
          have bn2 : Blk w2 wr.heap.size 48 #[.int .i64 q, .bool nr] := by rw [hw2]; exact Blk.new _ _ _
          have C2 := Lib.hid (CW.out.trans cw2)
          have D2 := Lib.hid (CV.out.trans cw2)
          have bb := C2.out.blk HH.out.blk (fun h => h)
          have bi2 := D2.out.blk BI.out (fun h => h)
          have t1 : w2.cell? ⟨b, 1, none⟩ = some (.slice (some ⟨b2, o2, none⟩) L.pts.length c2) := bb.cell 1
          have t2 : w2.cell? ⟨b2, o2 + q * 2 + 1, none⟩ = some (.int .i64 L.pts[q].sec) := (C2.out.rd hb2 _).trans sc
          have t3 : w2.cell? ⟨wr.heap.size, 0, none⟩ = some (.int .i64 q) := bn2.cell 0
          have t4 : w2.cell? ⟨wr.heap.size, 1, none⟩ = some (.bool nr) := bn2.cell 1
          have t5 : w2.cell? ⟨w.heap.size, 0, none⟩ = some v1 := bi2.cell 0
          have t6 : w2.cell? ⟨w.heap.size, 1, none⟩ = some v2 := bi2.cell 1
          have hq0 : (0 : Int) ≤ q := by omega
          have hq1 : (q : Int) < L.pts.length := by omega
          have HW2 := Lib.hid hw2
          have CC2 := Lib.hid (hch.trans cw2)
          have HLi : Hid (∀ k, _) := fun k => lies_any B (w2.drewN k) _ occ lies ⟨q, nr⟩ (((HI.out.ch0 C2.out)).ch0 ((Ch.refl _ _).drewN k)) hq0 (by rw [HL.out]; exact hq1) (by rw [HL.out]; have := OK.out.p1; omega)
          generalize L.pts[q].sec = sec at *
          obtain ⟨sn, rfl⟩ : ∃ sn : Nat, sec = sn := ⟨sec.toNat, by omega⟩
          have hsn : sn < occ.length := by rw [HO.out]; omega
          obtain ⟨b1, o1, c1, rfl, -, -, hb1, oc⟩ := HI.out.occ hsn
          have HOc : Hid (occ[sn] = true → ¬ Clear rs occ) := fun e hc => by have := hc.2 _ (List.getElem_mem hsn); rw [e] at this; cases this
          have OC := Lib.hid oc
          have HB1 := Lib.hid hb1
          have BB := Lib.hid bb
          have BI2 := Lib.hid bi2
          have hs0 : (0 : Int) ≤ sn := by omega
          have hs1 : (sn : Int) < occ.length := by omega
          clear hw2 cw2 bn2 bb bi2 n0 n1 s0 s1 sc oc
          generalize occ[sn] = oy at *
          go_wp2_with fail
          rw [← HW2.out]
          go_quiet (fail)
          go_wp2_with fail
          refine (HLi.out _).mono ?_
          rintro e w3 ⟨rfl, c3⟩
          have C3 : Hid (Ch Noone w2 w3) := ((Ch.refl _ _).drewN _).trans c3
          have C13 : Hid (Ch Noone w1 w3) := CC2.out.trans C3.out
          generalize lieB lies ⟨q, nr⟩ = ly at *
          have u0 : w3.cell? ⟨w.heap.size, 0, none⟩ = some (.slice (some ⟨b1, o1, none⟩) occ.length c1) := (C3.out.blk BI2.out (fun h => h)).cell 0
          have u1 : w3.cell? ⟨b1, o1 + sn, none⟩ = some (.bool oy) := (((C2.out.trans C3.out).rd HB1.out _)).trans OC.out
          clear c3 t1 t2 t3 t4 t5 t6 y0 y1 HLi
          cases ly
          · cases oy
            · have HHo := Lib.hid (holder_any O w3 b L rs sn (HK.out.ch (C2.out.trans C3.out) (fun _ _ _ h => h)) OK.out)
              go_wp2_with fail
              refine HHo.out.mono ?_
              rintro e w4 ⟨h, rfl, hh, c4⟩
              have HHh : Hid (0 ≤ h → ¬ Clear rs occ) := fun h0 hc => by
                rcases hh with h1 | ⟨k, hk, rfl, h2⟩
                · omega
                · exact h2 (hc.1 _ (List.getElem_mem hk))
              have C14 : Hid (Ch Noone w1 w4) := C13.out.trans c4
              clear hh c4
              by_cases h0 : 0 ≤ h
              · have HF := Lib.hid (HHh.out h0)
                go_wp2_with fail
                go_ret
                exact ⟨false, rfl, fun h => absurd h HF.out, C0.out.trans (C1.out.trans C14.out)⟩
              · have h0' : h < 0 := by omega
                clear h0
                go_wp2_with fail
                go_roundw
                case rel => exact ⟨k + 1, by omega, by go_num, C14.out⟩
                case measure => simp [intOf]; omega
            · have HF := Lib.hid (HOc.out rfl)
              go_wp2_with fail
              go_ret
              exact ⟨false, rfl, fun h => absurd h HF.out, C0.out.trans (C1.out.trans C13.out)⟩
          · go_wp2_with fail
            go_roundw
            case rel => exact ⟨k + 1, by omega, by go_num, C13.out⟩
            case measure => simp [intOf]; omega
        · have bb := CW.out.blk HH.out.blk (fun h => h)
          have bi2 := CV.out.blk BI.out (fun h => h)
          have t1 : wr.cell? ⟨b, 3, none⟩ = some (.slice (some ⟨b4, o4, none⟩) rs.length c4) := bb.cell 3
          have t2 : wr.cell? ⟨b4, o4 + r * 6 + 3, none⟩ = some (.slice pa L.routes[r].path.length pc) := (CW.out.rd HH.out.l4 _).trans HH.out.rc.2.2.2
          have t5 : wr.cell? ⟨w.heap.size, 0, none⟩ = some v1 := bi2.cell 0
          have t6 : wr.cell? ⟨w.heap.size, 0 + 1, none⟩ = some v2 := bi2.cell 1
          have k4 := HH.out.k4
          have HPO : Hid (∀ x ∈ L.routes[r].path, 0 ≤ x ∧ x < occ.length) := fun x hx => by
            have := (OK.out.route _ (List.getElem_mem hr)).path.1 x hx
            rw [HO.out]; exact this
          have HPL : Hid (L.routes[r].path.length ≤ 100) := by have := (OK.out.route _ (List.getElem_mem hr)).path.2.2.2; show _ ≤ _; omega
          have HIo := Lib.hid (isOcc_any B _ wr.drew _ _ occ lies L.routes[r].path ((HI.out.ch0 CW.out).ch0 (Ch.refl _ _).drew) ((HH.out.path.ch0 CW.out).ch0 (Ch.refl _ _).drew) (by rw [HO.out]; have := OK.out.s1; omega) HPL.out HPO.out)
          have HF : Hid (Clear rs occ → L.routes[r].path.any (occB occ) = false) := fun hc => List.any_eq_false.2 fun x hx => by
            have := HPO.out x hx
            have h1 : x.toNat < occ.length := by omega
            have h2 := hc.2 _ (List.getElem_mem h1)
            unfold occB
            simp [h1, h2]
          clear bb bi2
          generalize L.routes[r].path.any (occB occ) = oy at *
          go_wp2_with fail
          go_still_tail 10, (by kernel_rfl)
          change wpList _ _ _ _ _ wr.drew
          go_wp2_with fail
          refine HIo.out.mono ?_
          rintro e w4 ⟨rfl, c4⟩
          go_wp2_with fail
          go_ret
          exact ⟨!oy, rfl, fun hc => by rw [HF.out hc]; rfl, (CW.out.drew).trans c4⟩
end Go.Proofs.YtkplgggdidhnoaaGreatDoor

namespace Go.Proofs.YtkplgggdidhnoaaGreatDoor
open Go.ChangeShapes Go.WideShapes Go.ChangeAt Go.RowKit
set_option linter.unusedVariables false

theorem RsOk.set {L : Lay} {rs : List RS} (h : RsOk L rs) {r : Nat} (hr : r < L.routes.length) {y : RS} (hy : RSOk L.routes[r] y) : RsOk L (rs.set r y) := by
  refine ⟨by rw [List.length_set]; exact h.len, fun k h1 h2 => ?_⟩
  rw [List.getElem_set]
  split
  · subst_vars; exact hy
  · exact h.ok k (by simpa using h1) h2

theorem LockR.put {O : Nat → Prop} {w : World} {b : Nat} {L : Lay} {rs : List RS} {r : Nat} {x : RS} {R : Route} {v1 v2 v3 : Value} {b4 o4 c4 g c5 : Nat} {pa : Option Addr} {pc : Nat}
    (H : LockR O w b L rs r x R v1 v2 v3 b4 o4 c4 g c5 pa pc) (hok : RsOk L rs) (hr : r < rs.length) (y : RS) (hy : ∀ h : r < L.routes.length, RSOk L.routes[r] y) :
    LockAt O (putRow w g (r * 4) (fRS y)) b L (rs.set r y) ∧ Ch (fun k => k = g) w (putRow w g (r * 4) (fRS y)) := by
  have cc := putRow_ch g (fRS y) w (r * 4)
  have hr' : r < L.routes.length := by rw [← hok.len]; exact hr
  have ho := Own.put (f := fRS) (C := 4) (fun _ => rfl) (by omega) H.own rfl hr y
  refine ⟨⟨H.ob, hok.set hr' (hy hr'), v1, v2, v3, _, _, cc.blk H.blk (fun e => H.gb e.symm), (H.lay.ch cc (fun k hk _ e => hk.2.2 e)).mono fun k hk _ => ⟨hk.1, hk.2.1, ?_⟩, ?_⟩, cc⟩
  · simp only [Value.ownBlock, ne_eq, Option.some.injEq]
    exact fun e => hk.2.2 e.symm
  · rw [List.length_set]; exact ho

theorem LockR.ch0 {O : Nat → Prop} {w w' : World} {b : Nat} {L : Lay} {rs : List RS} {r : Nat} {x : RS} {R : Route} {v1 v2 v3 : Value} {b4 o4 c4 g c5 : Nat} {pa : Option Addr} {pc : Nat}
    (H : LockR O w b L rs r x R v1 v2 v3 b4 o4 c4 g c5 pa pc) (c : Ch Noone w w') : LockR O w' b L rs r x R v1 v2 v3 b4 o4 c4 g c5 pa pc :=
  ⟨c.blk H.blk (fun h => h), H.k4, H.k5, H.ob, H.og, H.gb, H.o4', H.b4b, H.b4g, Nat.lt_of_lt_of_le H.l4 c.size, Nat.lt_of_lt_of_le H.lg c.size, ⟨(c.rd H.l4 _).trans H.rc.1, (c.rd H.l4 _).trans H.rc.2.1, (c.rd H.l4 _).trans H.rc.2.2.1, (c.rd H.l4 _).trans H.rc.2.2.2⟩, H.path.ch0 c, ⟨(c.rd H.lg _).trans H.xc.1, (c.rd H.lg _).trans H.xc.2.1, (c.rd H.lg _).trans H.xc.2.2.1, (c.rd H.lg _).trans H.xc.2.2.2⟩, H.lay.ch0 c, H.own.ch c (fun _ _ _ h => h)⟩
theorem LockR.free {O : Nat → Prop} {w : World} {b : Nat} {L : Lay} {rs : List RS} {r : Nat} {x : RS} {R : Route} {v1 v2 v3 : Value} {b4 o4 c4 g c5 : Nat} {pa : Option Addr} {pc : Nat}
    (H : LockR O w b L rs r x R v1 v2 v3 b4 o4 c4 g c5 pa pc) (i : Nat) : w.frozen? ⟨g, i, none⟩ = false := by
  obtain ⟨cur, hcur⟩ := H.own.blk
  exact hcur.free i

theorem RSOk.set1 (R : Route) : RSOk R ⟨1, 0, 0, false⟩ := ⟨by decide, by decide, fun h => by cases h⟩
theorem RSOk.rel (R : Route) : RSOk R ⟨4, 0, 0, false⟩ := ⟨by decide, by decide, fun h => by cases h⟩
theorem RSOk.lock (R : Route) : RSOk R ⟨2, 0, 0, false⟩ := ⟨by decide, by decide, fun h => by cases h⟩

set_option maxRecDepth 100000 in
set_option maxHeartbeats 4000000 in
theorem call_any (O B : Nat → Prop) (w : World) (b : Nat) (L : Lay) (rs : List RS) (v : Value) (occ : List Bool) (lies : List Int) (r : Nat) (h : LockAt O w b L rs) (ok : LayOk L) (hI : InR B w v occ lies) (ho : occ.length = L.secs.length) (hl : lies.length = L.pts.length) (hr : r < L.routes.length) :
    Calls Tryz.prog 148 #[.pointer (some ⟨b, 0, none⟩), v, .int .i64 r] w fun e w' => (∃ n : Int, e = .returned (.int .i64 n)) ∧ (∃ rs', LockAt O w' b L rs' ∧ (Clear rs occ → rs' = rs.set r ⟨1, 0, 0, false⟩)) ∧ Ch O w w' := by
  obtain ⟨v1, v2, rfl, -, -⟩ := id hI
  have hr' : r < rs.length := by rw [h.2.1.len]; exact hr
  obtain ⟨q1, q2, q3, b4, o4, c4, g, c5, pa, pc, H⟩ := h.at hr' hr
  have l4 : w.cell? ⟨b, 4, none⟩ = some (.slice (some ⟨g, 0, none⟩) rs.length c5) := H.blk.cell 4
  have y0 : w.cell? ⟨g, r * 4, none⟩ = some (.int .i64 rs[r].mode) := H.xc.1
  have hbl := H.blk.lt
  have hgl := H.lg
  have k5 := H.k5
  have HH := Lib.hid H
  have HK := Lib.hid h
  have OK := Lib.hid ok
  obtain ⟨w0, hw0⟩ : ∃ w0, w0 = w.alloc (.cells #[v1, v2] 133) := ⟨_, rfl⟩
  have c0 : Ch Noone w w0 := by rw [hw0]; exact (Ch.refl _ _).alloc _
  have bi : Blk w0 w.heap.size 133 #[v1, v2] := by rw [hw0]; exact Blk.new _ _ _
  have HW0 := Lib.hid hw0
  have C0 := Lib.hid c0
  have HFr := Lib.hid (isFree_any O B w0 b L rs _ occ lies r (h.ch c0 (fun _ _ _ h => h)) ok (hI.ch0 c0) ho hl hr)
  have hr0 : (0 : Int) ≤ r := by omega
  have hr1 : (r : Int) < rs.length := by omega
  have HM : Hid (rs[r].mode ≠ 0 → ¬ Clear rs occ) := fun hm hc => hm (hc.1 _ (List.getElem_mem hr'))
  clear h ok hI ho hl H hw0 c0 bi
  generalize hxm : rs[r].mode = xm at *
  clear hxm
  by_cases hm : xm = 0
  · have hm' : (xm != 0) = false := by simpa using hm
    clear hm
    go_enter Tryz.func148, Tryz.ntmps148
    go_wp2_with fail
    rw [← HW0.out]
    refine HFr.out.mono ?_
    rintro e w1 ⟨t, rfl, ht, c1⟩
    have HT := Lib.hid ht
    have C1 := Lib.hid (C0.out.trans c1)
    clear ht c1
    cases t
    · go_wp2_with fail
      go_ret
      exact ⟨⟨_, rfl⟩, ⟨rs, HK.out.ch C1.out (fun _ _ _ h => h), fun h => absurd (HT.out h) (by decide)⟩, C1.out.mono fun _ _ h => h.elim⟩
    · have hk1 := HK.out.ch C1.out (fun _ _ _ h => h)
      clear l4 y0 hbl hgl k5 hm'
      have hh1 := HH.out.ch0 C1.out
      have l4 : w1.cell? ⟨b, 4, none⟩ = some (.slice (some ⟨g, 0, none⟩) rs.length c5) := hh1.blk.cell 4
      obtain ⟨y0, y1, y2, y3⟩ := hh1.xc
      have f0 := hh1.free (r * 4)
      have f1 := hh1.free (r * 4 + 1)
      have f2 := hh1.free (r * 4 + 2)
      have f3 := hh1.free (r * 4 + 3)
      have HP := Lib.hid (hh1.put HK.out.2.1 hr' ⟨1, 0, 0, false⟩ (fun _ => RSOk.set1 _))
      have og := Lib.hid hh1.og
      clear hk1 hh1
      go_wp2_with fail
      go_ret
      exact ⟨⟨_, rfl⟩, ⟨_, HP.out.1, fun _ => rfl⟩, (C1.out.mono fun _ _ h => h.elim).trans (HP.out.2.mono fun k _ e => e ▸ og.out)⟩
  · have hm' : (xm != 0) = true := by simpa using hm
    have HM' := Lib.hid (HM.out hm)
    clear hm HM
    go_enter Tryz.func148, Tryz.ntmps148
    go_wp2_with fail
    go_ret
    exact ⟨⟨_, rfl⟩, ⟨rs, HK.out.ch ((Ch.refl Noone _).alloc _) (fun _ _ _ h => h), fun h => absurd h HM'.out⟩, (Ch.refl _ _).alloc _⟩

theorem RSOk.zero (R : Route) : RSOk R ⟨0, 0, 0, false⟩ := ⟨by decide, by decide, fun h => by cases h⟩

set_option maxRecDepth 100000 in
set_option maxHeartbeats 4000000 in
theorem cancel_any (O : Nat → Prop) (w : World) (b : Nat) (L : Lay) (rs : List RS) (r : Nat) (h : LockAt O w b L rs) (ok : LayOk L) (hr : r < L.routes.length) :
    Calls Tryz.prog 149 #[.pointer (some ⟨b, 0, none⟩), .int .i64 r] w fun e w' => (∃ n : Int, e = .returned (.int .i64 n)) ∧ (∃ rs', LockAt O w' b L rs') ∧ Ch O w w' := by
  have hr' : r < rs.length := by rw [h.2.1.len]; exact hr
  obtain ⟨q1, q2, q3, b4, o4, c4, g, c5, pa, pc, H⟩ := h.at hr' hr
  have l4 : w.cell? ⟨b, 4, none⟩ = some (.slice (some ⟨g, 0, none⟩) rs.length c5) := H.blk.cell 4
  obtain ⟨y0, y1, y2, y3⟩ := H.xc
  have f0 := H.free (r * 4)
  have f1 := H.free (r * 4 + 1)
  have f2 := H.free (r * 4 + 2)
  have f3 := H.free (r * 4 + 3)
  have k5 := H.k5
  have HH := Lib.hid H
  have HK := Lib.hid h
  have og := Lib.hid H.og
  have hr0 : (0 : Int) ≤ r := by omega
  have hr1 : (r : Int) < rs.length := by omega
  clear h ok H
  generalize hxm : rs[r].mode = xm at *
  clear hxm
  rcases (show xm = 1 ∨ xm = 2 ∨ (xm ≠ 1 ∧ xm ≠ 2) by omega) with e | e | ⟨e1, e2⟩
  · subst e
    have HP := Lib.hid (HH.out.put HK.out.2.1 hr' ⟨0, 0, 0, false⟩ (fun _ => RSOk.zero _))
    go_enter Tryz.func149, Tryz.ntmps149
    go_wp2_with fail
    go_ret
    exact ⟨⟨_, rfl⟩, ⟨_, HP.out.1⟩, HP.out.2.mono fun k _ e => e ▸ og.out⟩
  · subst e
    have HP := Lib.hid (HH.out.put HK.out.2.1 hr' ⟨4, 0, 0, false⟩ (fun _ => RSOk.rel _))
    go_enter Tryz.func149, Tryz.ntmps149
    go_wp2_with fail
    go_ret
    exact ⟨⟨_, rfl⟩, ⟨_, HP.out.1⟩, HP.out.2.mono fun k _ e => e ▸ og.out⟩
  · have e1' : (xm == 1) = false := by simpa using e1
    have e2' : (xm == 2) = false := by simpa using e2
    clear e1 e2
    go_enter Tryz.func149, Tryz.ntmps149
    go_wp2_with fail
    go_ret
    exact ⟨⟨_, rfl⟩, ⟨_, HK.out⟩, Ch.refl _ _⟩

/-- The world behind the boxes of Command's arguments. -/
theorem LockAt.ch0 {O : Nat → Prop} {w w' : World} {b : Nat} {L : Lay} {rs : List RS} (h : LockAt O w b L rs) (c : Ch Noone w w') : LockAt O w' b L rs := h.ch c (fun _ _ _ h => h)

set_option maxRecDepth 100000 in
set_option maxHeartbeats 4000000 in
theorem command_any (O B : Nat → Prop) (w : World) (b : Nat) (L : Lay) (rs : List RS) (v : Value) (occ : List Bool) (lies : List Int) (c : Cmd) (h : LockAt O w b L rs) (ok : LayOk L) (hI : InR B w v occ lies) (ho : occ.length = L.secs.length) (hl : lies.length = L.pts.length) (hz : ∀ x ∈ lies, 0 ≤ x ∧ x ≤ 2) :
    Calls Tryz.prog 129 #[.pointer (some ⟨b, 0, none⟩), v, .agg #[.int .i64 c.kind, .int .i64 c.route]] w fun e w' => (∃ n : Int, e = .returned (.int .i64 n)) ∧ (∃ rs', LockAt O w' b L rs' ∧ (c.kind = 1 → 0 ≤ c.route → c.route < L.routes.length → Clear rs occ → rs' = rs.set c.route.toNat ⟨1, 0, 0, false⟩)) ∧ Ch O w w' := by
  obtain ⟨v1, v2, rfl, -, -⟩ := id hI
  obtain ⟨q1, q2, q3, q4, q5, hb, hL, h5⟩ := h.blkOf
  obtain ⟨a5, c5, rfl, -, -, -, -⟩ := h5
  obtain ⟨ck, cr⟩ := c
  dsimp only at *
  obtain ⟨w0, hw0⟩ : ∃ w0, w0 = (w.alloc (.cells #[v1, v2] 133)).alloc (.cells #[.int .i64 ck, .int .i64 cr] 50) := ⟨_, rfl⟩
  have c0 : Ch Noone w w0 := by rw [hw0]; exact ((Ch.refl _ _).alloc _).alloc _
  have bi : Blk w0 w.heap.size 133 #[v1, v2] := by rw [hw0]; exact (Blk.new _ _ _).alloc _
  have bc : Blk w0 (w.heap.size + 1) 50 #[.int .i64 ck, .int .i64 cr] := by rw [hw0]; exact Blk.new2 _ _ _ _
  have hb0 := c0.blk hb (fun h => h)
  have HS : Hid (∀ W', Ch Noone w0 W' → W'.cell? ⟨b, 0, none⟩ = some q1 ∧ W'.cell? ⟨b, 0 + 1, none⟩ = some q2 ∧ W'.cell? ⟨b, 0 + 2, none⟩ = some q3 ∧ W'.cell? ⟨b, 0 + 3, none⟩ = some q4 ∧ W'.cell? ⟨w.heap.size, 0, none⟩ = some v1 ∧ W'.cell? ⟨w.heap.size, 0 + 1, none⟩ = some v2 ∧ W'.cell? ⟨w.heap.size + 1, 0, none⟩ = some (.int .i64 ck)) := fun W' c => by
    have h1 := c.blk hb0 (fun h => h)
    have h2 := c.blk bi (fun h => h)
    exact ⟨h1.cell 0, h1.cell 1, h1.cell 2, h1.cell 3, h2.cell 0, h2.cell 1, (c.blk bc (fun h => h)).cell 0⟩
  have HMI := Lib.hid (mayIn_yes B O w0.drew _ _ L occ lies ((hL.ch0 c0).ch0 (Ch.refl _ _).drew) ok ((hI.ch0 c0).ch0 (Ch.refl _ _).drew) ho hl hz)
  have HW0 := Lib.hid hw0
  have C0 := Lib.hid c0
  have BI := Lib.hid bi
  have BC := Lib.hid bc
  have HB0 := Lib.hid hb0
  have HK := Lib.hid h
  have OK := Lib.hid ok
  have HI := Lib.hid hI
  have HO := Lib.hid ho
  have HL := Lib.hid hl
  have HLen := Lib.hid h.2.1.len
  have hn6 : rs.length ≤ 6 := by rw [h.2.1.len]; exact ok.r1
  have fin : Hid (∀ (W' : World) (n : Int), Ch Noone w0 W' → (∃ n' : Int, Ending.returned (.int .i64 n) = .returned (.int .i64 n')) ∧ LockAt O W' b L rs ∧ Ch O w W') := fun W' n c => ⟨⟨_, rfl⟩, (h.ch0 c0).ch0 c, (c0.trans c).mono fun _ _ h => h.elim⟩
  clear h ok hI ho hl hz hb hL hw0 c0 bi bc hb0
  rcases (show ck = 1 ∨ ck = 2 ∨ (ck ≠ 1 ∧ ck ≠ 2) by omega) with e | e | ⟨e1, e2⟩
  · subst e
    go_enter Tryz.func129, Tryz.ntmps129
    go_wp2_with fail
    rw [← HW0.out]
    obtain ⟨x0, x1, x2, x3, x4, x5, x6⟩ := HS.out w0 (Ch.refl _ _)
    go_still_tail 8, (by kernel_rfl)
    change wpList _ _ _ _ _ w0.drew
    go_wp2_with fail
    refine HMI.out.mono ?_
    rintro e w1 ⟨rfl, c1⟩
    clear x0 x1 x2 x3 x4 x5 x6
    have C1 : Hid (Ch Noone w0 w1) := (Ch.refl _ _).drew.trans c1
    obtain ⟨x0, x1, x2, x3, x4, x5, x6⟩ := HS.out w1 C1.out
    have x7 : w1.cell? ⟨w.heap.size + 1, 1, none⟩ = some (.int .i64 cr) := (C1.out.blk BC.out (fun h => h)).cell 1
    have x8 : w1.cell? ⟨b, 4, none⟩ = some (.slice a5 rs.length c5) := (C1.out.blk HB0.out (fun h => h)).cell 4
    by_cases hneg : cr < 0
    · go_wp2_with fail
      go_quiet (fail)
      go_wp2_with fail
      go_ret
      obtain ⟨f1, f2, f3⟩ := fin.out _ 5 (C1.out.drewN _)
      exact ⟨⟨_, rfl⟩, ⟨rs, f2, fun _ h => absurd h (by omega)⟩, f3⟩
    · by_cases hbig : (rs.length : Int) ≤ cr
      · have hge : cr ≥ (rs.length : Int) := hbig
        have hp : 0 ≤ cr := by omega
        clear hneg hbig
        go_wp2_with fail
        go_quiet (fail)
        go_wp2_with fail
        go_ret
        obtain ⟨f1, f2, f3⟩ := fin.out _ 5 (C1.out.drewN _)
        exact ⟨⟨_, rfl⟩, ⟨rs, f2, fun _ _ h => absurd h (by rw [← HLen.out]; omega)⟩, f3⟩
      · obtain ⟨k, rfl⟩ : ∃ k : Nat, cr = k := ⟨cr.toNat, by omega⟩
        have hk0 : (0 : Int) ≤ k := by omega
        have hk1 : (k : Int) < rs.length := by omega
        have hkr : k < L.routes.length := by rw [← HLen.out]; omega
        clear hneg hbig
        have HCk : Hid (∀ j, _) := fun j => call_any O B (w1.drewN j) b L rs _ occ lies k ((HK.out.ch0 C0.out).ch0 (C1.out.drewN j)) OK.out ((HI.out.ch0 C0.out).ch0 (C1.out.drewN j)) HO.out HL.out hkr
        go_wp2_with fail
        go_quiet (fail)
        go_wp2_with fail
        refine (HCk.out _).mono ?_
        rintro e w2 ⟨⟨n, rfl⟩, ⟨rs', hk2, hcl⟩, c2⟩
        have HC2 := Lib.hid hcl
        have HK2 := Lib.hid hk2
        clear hcl hk2
        go_wp2_with fail
        go_ret
        exact ⟨⟨_, rfl⟩, ⟨rs', HK2.out, fun _ _ _ h => by have := HC2.out h; simpa using this⟩, ((C0.out.trans (C1.out.drewN _)).mono fun _ _ h => h.elim).trans c2⟩
  · subst e
    go_enter Tryz.func129, Tryz.ntmps129
    go_wp2_with fail
    rw [← HW0.out]
    obtain ⟨x0, x1, x2, x3, x4, x5, x6⟩ := HS.out w0 (Ch.refl _ _)
    go_still_tail 8, (by kernel_rfl)
    change wpList _ _ _ _ _ w0.drew
    go_wp2_with fail
    refine HMI.out.mono ?_
    rintro e w1 ⟨rfl, c1⟩
    clear x0 x1 x2 x3 x4 x5 x6
    have C1 : Hid (Ch Noone w0 w1) := (Ch.refl _ _).drew.trans c1
    obtain ⟨x0, x1, x2, x3, x4, x5, x6⟩ := HS.out w1 C1.out
    have x7 : w1.cell? ⟨w.heap.size + 1, 1, none⟩ = some (.int .i64 cr) := (C1.out.blk BC.out (fun h => h)).cell 1
    have x8 : w1.cell? ⟨b, 4, none⟩ = some (.slice a5 rs.length c5) := (C1.out.blk HB0.out (fun h => h)).cell 4
    by_cases hneg : cr < 0
    · go_wp2_with fail
      go_quiet (fail)
      go_wp2_with fail
      go_ret
      obtain ⟨f1, f2, f3⟩ := fin.out _ 5 (C1.out.drewN _)
      exact ⟨⟨_, rfl⟩, ⟨rs, f2, fun _ h => absurd h (by omega)⟩, f3⟩
    · by_cases hbig : (rs.length : Int) ≤ cr
      · have hge : cr ≥ (rs.length : Int) := hbig
        have hp : 0 ≤ cr := by omega
        clear hneg hbig
        go_wp2_with fail
        go_quiet (fail)
        go_wp2_with fail
        go_ret
        obtain ⟨f1, f2, f3⟩ := fin.out _ 5 (C1.out.drewN _)
        exact ⟨⟨_, rfl⟩, ⟨rs, f2, fun _ _ h => absurd h (by rw [← HLen.out]; omega)⟩, f3⟩
      · obtain ⟨k, rfl⟩ : ∃ k : Nat, cr = k := ⟨cr.toNat, by omega⟩
        have hk0 : (0 : Int) ≤ k := by omega
        have hk1 : (k : Int) < rs.length := by omega
        have hkr : k < L.routes.length := by rw [← HLen.out]; omega
        clear hneg hbig
        have HCk : Hid (∀ j, _) := fun j => cancel_any O (w1.drewN j) b L rs k ((HK.out.ch0 C0.out).ch0 (C1.out.drewN j)) OK.out hkr
        go_wp2_with fail
        go_quiet (fail)
        go_wp2_with fail
        refine (HCk.out _).mono ?_
        rintro e w2 ⟨⟨n, rfl⟩, ⟨rs', hk2⟩, c2⟩
        have HK2 := Lib.hid hk2
        clear hk2
        go_wp2_with fail
        go_ret
        exact ⟨⟨_, rfl⟩, ⟨rs', HK2.out, fun h => absurd h (by decide)⟩, ((C0.out.trans (C1.out.drewN _)).mono fun _ _ h => h.elim).trans c2⟩
  · have e1' : (ck != 1) = true := by simpa using e1
    have e2' : (ck != 2) = true := by simpa using e2
    have HE := Lib.hid e1
    clear e1 e2
    go_enter Tryz.func129, Tryz.ntmps129
    go_wp2_with fail
    rw [← HW0.out]
    obtain ⟨x0, x1, x2, x3, x4, x5, x6⟩ := HS.out w0 (Ch.refl _ _)
    go_still_tail 8, (by kernel_rfl)
    change wpList _ _ _ _ _ w0.drew
    go_wp2_with fail
    refine HMI.out.mono ?_
    rintro e w1 ⟨rfl, c1⟩
    clear x0 x1 x2 x3 x4 x5 x6
    have C1 : Hid (Ch Noone w0 w1) := (Ch.refl _ _).drew.trans c1
    obtain ⟨x0, x1, x2, x3, x4, x5, x6⟩ := HS.out w1 C1.out
    have x7 : w1.cell? ⟨w.heap.size + 1, 1, none⟩ = some (.int .i64 cr) := (C1.out.blk BC.out (fun h => h)).cell 1
    have x8 : w1.cell? ⟨b, 4, none⟩ = some (.slice a5 rs.length c5) := (C1.out.blk HB0.out (fun h => h)).cell 4
    go_wp2_with fail
    go_ret
    obtain ⟨f1, f2, f3⟩ := fin.out _ 1 C1.out
    exact ⟨⟨_, rfl⟩, ⟨rs, f2, fun h => absurd h HE.out⟩, f3⟩
end Go.Proofs.YtkplgggdidhnoaaGreatDoor
