/-
  table: what may be is told to be so. Condition: the layout may be (LayOk), as it stands in each. table.isRoute: a route that may be is told to be one. Condition: it may be (RouteOk).
-/
import Derived.Test.YtkplgggdidhnoaaGreatDoorM00
import Derived.Test.YtkplgggdidhnoaaGreatDoorM04
import Derived.WalkLawsBesides
import Derived.WalkSpells
import Derived.Deep.QuietTactic
import Derived.BigQuiet
import Derived.StillTailTactics
import Derived.Deep.RegionHeld3
import Derived.Lib.Hide
namespace Go.Proofs.YtkplgggdidhnoaaGreatDoor
open Go.ChangeShapes Go.WideShapes Go.ChangeAt Go.RowKit
set_option linter.unusedVariables false


theorem isIn_yes (w : World) (n a c : Int) (h1 : a ≤ n) (h2 : n ≤ c) : Calls Tryz.prog 78 #[.int .i64 n, .int .i64 a, .int .i64 c] w fun r w' => r = .returned (.bool true) ∧ w' = w := by
  go_enter Tryz.func78, Tryz.ntmps78
  go_wp2_with fail
  go_ret
  exact ⟨rfl, rfl⟩

set_option maxHeartbeats 1000000 in
theorem isPath_yes (B : Nat → Prop) (w : World) (v vp : Value) (L : Lay) (p : List Int) (hL : LayAt B w v L) (hp : Sl B w vp p.length (p.flatMap fInt)) (ok : PathOk L p) (hs : L.secs.length ≤ 10) :
    Calls Tryz.prog 109 #[v, vp] w fun r w' => r = .returned (.bool true) ∧ Ch Noone w w' := by
  have HP := Lib.hid hp
  have OK := Lib.hid ok
  have o1 := ok.2.2.1
  have o2 := ok.2.2.2
  clear ok
  obtain ⟨v1, v2, v3, v4, rs, rfl, h1, h2, h3, h4, h5, h6⟩ := hL
  clear h2 h3 h4 h5 h6
  obtain ⟨a1, c1, rfl, _, _, _, _⟩ := h1
  obtain ⟨ao, cap, rfl, q2, q3, q4, q5⟩ := hp
  have HQ := Lib.hid q3
  clear q3 q4 q5
  have b0 := Blk.new w 26 #[.slice a1 L.secs.length c1, v2, v3, v4]
  have C0 : Ch Noone w (w.alloc (.cells #[.slice a1 L.secs.length c1, v2, v3, v4] 26)) := (Ch.refl _ _).alloc _
  go_enter Tryz.func109, Tryz.ntmps109
  go_wp2_with fail
  go_loopw [5, 6, 9] (fun _ _ i wr => ∃ k : Nat, k ≤ p.length ∧ i = .int .i64 k ∧ wr = w.alloc (.cells #[.slice a1 L.secs.length c1, v2, v3, v4] 26)) (fun _ _ i _ => (p.length - intOf i).toNat)
  case atStart => exact ⟨0, by omega, rfl, rfl⟩
  case round =>
    obtain ⟨k, hk, rfl, rfl⟩ := hrel
    by_cases hkl : k < p.length
    · obtain ⟨b, off, rfl, _, _, hat⟩ := (HP.out.ch0 C0).at (f := fInt) (C := 1) (fun _ => rfl) (by omega) hkl
      have y0 : (w.alloc (.cells #[.slice a1 L.secs.length c1, v2, v3, v4] 26)).cell? ⟨b, off + k, none⟩ = some (.int .i64 p[k]) := by have := hat 0 (by omega); rw [Nat.mul_one] at this; exact this
      have x0 := (OK.out.1 p[k] (List.getElem_mem hkl)).1
      have x1 := (OK.out.1 p[k] (List.getElem_mem hkl)).2
      have HT := Lib.hid (Sl.take (f := fInt) (C := 1) (fun _ => rfl) (HP.out.ch0 C0) rfl (Nat.le_of_lt hkl))
      have HN : Hid ((p.take k).any (fun y => p[k] == y) = false) := List.any_eq_false.2 fun z hz => by
        obtain ⟨j, hj, rfl⟩ := List.getElem_of_mem hz
        simp only [List.length_take] at hj
        rw [List.getElem_take, OK.out.2.1 j k (by omega) hkl (by omega)]; simp
      clear hat
      obtain ⟨y, hy⟩ : ∃ y, y = p[k] := ⟨_, rfl⟩
      rw [← hy] at y0 x0 x1 HN
      clear hy
      go_wp2_with fail
      refine (isIn_yes _ _ _ _ (by omega) (by omega)).mono ?_
      rintro e w1 ⟨rfl, rfl⟩
      go_wp2_with fail
      have hlen : (p.take k).length = k := by simp; omega
      have hcont := slcontains_int B (w.alloc (.cells #[.slice a1 L.secs.length c1, v2, v3, v4] 26)) (.slice (some ⟨b, off, none⟩) k cap) (p.take k) y (by rw [hlen]; exact HT.out) (by omega)
      rw [HN.out] at hcont
      refine hcont.mono ?_
      clear hcont hlen
      rintro e w1 ⟨rfl, rfl⟩
      go_wp2_with fail
      go_roundw
      case rel => exact ⟨k + 1, by omega, by go_num, trivial⟩
      case measure => simp [intOf]; omega
    · go_wp2_with fail
      refine (isIn_yes _ _ _ _ (by omega) (by omega)).mono ?_
      rintro e w1 ⟨rfl, rfl⟩
      go_wp2_with fail
      go_ret
      exact ⟨rfl, C0⟩

theorem secOf_at {L : Lay} {n : Int} (h0 : 0 ≤ n) (h1 : n < L.pts.length) : ∃ h : n.toNat < L.pts.length, secOf L n = L.pts[n.toNat].sec := by
  have h : n.toNat < L.pts.length := by omega
  exact ⟨h, by simp [secOf, List.getElem?_eq_getElem h]⟩

set_option maxHeartbeats 1000000 in
set_option maxRecDepth 100000 in
theorem areNeeds_yes (B : Nat → Prop) (w : World) (v vn vp : Value) (L : Lay) (ns : List Need) (p : List Int) (t : Bool) (hL : LayAt B w v L) (hn : Sl B w vn ns.length (ns.flatMap fNeed)) (hp : Sl B w vp p.length (p.flatMap fInt)) (ok : NeedsOk L ns p t)
    (hpl : p.length ≤ 5) (hs : L.pts.length ≤ 5) :
    Calls Tryz.prog 110 #[v, vn, vp, .bool t] w fun r w' => r = .returned (.bool true) ∧ Ch Noone w w' := by
  have OK := Lib.hid ok
  have hnl := needs_le ok
  clear ok
  have HP := Lib.hid hp; clear hp
  have HN := Lib.hid hn
  obtain ⟨v1, v2, v3, v4, rs, rfl, h1, h2, h3, h4, h5, h6⟩ := hL
  have H2 := Lib.hid h2
  clear h1 h3 h4 h5 h6
  obtain ⟨a2, c2, rfl, -, -, -, -⟩ := h2
  obtain ⟨ao, cap, rfl, -, -, -, -⟩ := hn
  have C0 : Ch Noone w (w.alloc (.cells #[v1, .slice a2 L.pts.length c2, v3, v4] 26)) := (Ch.refl _ _).alloc _
  have b0 := Blk.new w 26 #[v1, .slice a2 L.pts.length c2, v3, v4]
  go_enter Tryz.func110, Tryz.ntmps110
  go_wp2_with fail
  go_loopw [9, 10, 13] (fun _ _ i wr => ∃ k : Nat, k ≤ ns.length ∧ i = .int .i64 k ∧ Ch Noone w wr ∧ Blk wr w.heap.size 26 #[v1, .slice a2 L.pts.length c2, v3, v4]) (fun _ _ i _ => (ns.length - intOf i).toNat)
  case atStart => exact ⟨0, by omega, rfl, C0, b0⟩
  case round =>
    clear b0 C0
    obtain ⟨k, hk, rfl, hch, hb⟩ := hrel
    by_cases hkl : k < ns.length
    · obtain ⟨b, off, rfl, -, -, hat⟩ := (HN.out.ch0 hch).at (f := fNeed) (C := 2) (fun _ => rfl) (by omega) hkl
      have y0 : wr.cell? ⟨b, off + k * 2, none⟩ = some (.int .i64 ns[k].pt) := hat 0 (by omega)
      have y1 : wr.cell? ⟨b, off + k * 2 + 1, none⟩ = some (.bool ns[k].rev) := hat 1 (by omega)
      clear hat
      have x0 := (OK.out.1 ns[k] (List.getElem_mem hkl)).1
      have x1 := (OK.out.1 ns[k] (List.getElem_mem hkl)).2.1
      have X2 := Lib.hid (OK.out.1 ns[k] (List.getElem_mem hkl)).2.2
      obtain ⟨hsl, hse⟩ := secOf_at x0 x1
      obtain ⟨b2, off2, rfl, -, -, hat2⟩ := (H2.out.ch0 hch).at (f := fPnt) (C := 2) (fun _ => rfl) (by omega) hsl
      have z1 : wr.cell? ⟨b2, off2 + ns[k].pt.toNat * 2 + 1, none⟩ = some (.int .i64 L.pts[ns[k].pt.toNat].sec) := hat2 1 (by omega)
      clear hat2
      rw [← hse] at z1
      clear hse hsl
      have d1 : wr.cell? ⟨w.heap.size, 1, none⟩ = some (.slice (some ⟨b2, off2, none⟩) L.pts.length c2) := hb.cell 1
      have HCon : Hid (∀ m, Calls Tryz.prog 111 #[vp, .int .i64 (secOf L ns[k].pt)] ((wr.alloc (.cells #[.int .i64 ns[k].pt, .bool ns[k].rev] 48)).drewN m) fun r w' => r = .returned (.bool t) ∧ w' = (wr.alloc (.cells #[.int .i64 ns[k].pt, .bool ns[k].rev] 48)).drewN m) := fun m => by
        have h := slcontains_int B ((wr.alloc (.cells #[.int .i64 ns[k].pt, .bool ns[k].rev] 48)).drewN m) vp p (secOf L ns[k].pt) (HP.out.ch0 ((hch.alloc _).drewN m)) (by omega)
        rw [show (p.any fun y => secOf L ns[k].pt == y) = t from X2.out] at h
        exact h
      have hprev : k ≠ 0 → ∃ q : Int, wr.cell? ⟨b, off + (k - 1) * 2, none⟩ = some (.int .i64 q) ∧ q < ns[k].pt := fun h0 => by
        obtain ⟨b', off', e', _, _, hat3⟩ := (HN.out.ch0 hch).at (f := fNeed) (C := 2) (fun _ => rfl) (by omega) (show k - 1 < ns.length by omega)
        simp only [Option.some.injEq, Addr.mk.injEq] at e'
        obtain ⟨rfl, rfl, _⟩ := e'
        have := OK.out.2 (k - 1) (by omega)
        have hk1 : k - 1 + 1 = k := by omega
        simp only [hk1] at this
        exact ⟨ns[k - 1].pt, hat3 0 (by omega), this⟩
      have HPr := Lib.hid hprev; clear hprev X2
      generalize hsec : secOf L ns[k].pt = sec at *
      clear hsec
      generalize ns[k] = y at *
      have hk0 : (0 : Int) ≤ k := by omega
      have hk1 : (k : Int) < ns.length := by omega
      have hi0 : IntKind.i64.wrap ((L.pts.length : Int) - 1) = L.pts.length - 1 := IntWalk.i64_in _ (by omega)
      have d1' : (wr.alloc (.cells #[.int .i64 y.pt, .bool y.rev] 48)).cell? ⟨w.heap.size, 1, none⟩ = some (.slice (some ⟨b2, off2, none⟩) L.pts.length c2) := (World.cell?_alloc_lt _ _ _ hb.lt).trans d1
      have z1' : (wr.alloc (.cells #[.int .i64 y.pt, .bool y.rev] 48)).cell? ⟨b2, off2 + y.pt.toNat * 2 + 1, none⟩ = some (.int .i64 sec) := (World.cell?_alloc_lt _ _ _ (World.block_lt_of_cell? _ _ z1)).trans z1
      have HI0 := Lib.hid hi0; clear hi0
      have HX1 : Hid (y.pt ≤ (L.pts.length : Int) - 1) := by unfold Hid; omega
      by_cases hz : k = 0
      · have hz1 : decide (0 < k) = false := by simp; omega
        have hz2 : decide ((0 : Int) < k) = false := by simp; omega
        clear HPr hz
        go_wp2_with fail
        have hi0 := HI0.out
        go_big_quiet ((first | (go_at_call 78; refine Calls.quiet_of_same (isIn_yes _ _ _ _ x0 HX1.out)) | (go_at_call 111; with_reducible refine Calls.quiet_of_same (HCon.out _))))
        clear hi0
        go_wp2_with fail
        go_roundw
        case rel => exact ⟨k + 1, by omega, by go_num, (hch.alloc _).drewN _, (hb.alloc _)⟩
        case measure => simp [intOf]; omega
      · have hz1 : decide (0 < k) = true := by simp; omega
        have hz2 : decide ((0 : Int) < k) = true := by simp; omega
        have hz3 : (0 : Int) < k := by omega
        obtain ⟨q, p0, hq⟩ := HPr.out hz
        have p1 : (wr.alloc (.cells #[.int .i64 y.pt, .bool y.rev] 48)).cell? ⟨b, off + (k - 1) * 2, none⟩ = some (.int .i64 q) := (World.cell?_alloc_lt _ _ _ (World.block_lt_of_cell? _ _ p0)).trans p0
        have hk2 : (0 : Int) ≤ k - 1 := by omega
        have hk3 : (k : Int) - 1 < ns.length := by omega
        have hk4 : ((k : Int) - 1).toNat = k - 1 := by omega
        have hk5 : IntKind.i64.wrap ((k : Int) - 1) = k - 1 := IntWalk.i64_in _ (by omega)
        have HK5 := Lib.hid hk5; clear hk5
        have hq2 : decide (y.pt ≤ q) = false := by simp; omega
        clear HPr hz
        go_wp2_with fail
        have hi0 := HI0.out
        have hk5 := HK5.out
        go_big_quiet ((first | (go_at_call 78; refine Calls.quiet_of_same (isIn_yes _ _ _ _ x0 HX1.out)) | (go_at_call 111; with_reducible refine Calls.quiet_of_same (HCon.out _))))
        clear hi0 hk5
        go_wp2_with fail
        go_roundw
        case rel => exact ⟨k + 1, by omega, by go_num, (hch.alloc _).drewN _, (hb.alloc _)⟩
        case measure => simp [intOf]; omega
    · go_wp2_with fail
      go_ret
      exact ⟨rfl, hch⟩
end Go.Proofs.YtkplgggdidhnoaaGreatDoor

namespace Go.Proofs.YtkplgggdidhnoaaGreatDoor
open Go.ChangeShapes Go.WideShapes Go.ChangeAt Go.RowKit
set_option linter.unusedVariables false


theorem count_take (ps : List Pnt) (p : List Int) (k : Nat) (hk : k < ps.length) : countB (ps.take (k + 1)) p = countB (ps.take k) p + if hasB p ps[k].sec = true then 1 else 0 := by
  unfold countB
  rw [List.take_succ_eq_append_getElem hk, List.filter_append, List.length_append]
  congr 1
  by_cases h : hasB p ps[k].sec = true <;> simp [h]
theorem count_le (ps : List Pnt) (p : List Int) (k : Nat) : countB (ps.take k) p ≤ k := by
  unfold countB
  exact Nat.le_trans (List.length_filter_le _ _) (by simp; omega)

set_option maxHeartbeats 2000000 in
set_option maxRecDepth 100000 in
theorem isRoute_yes (B : Nat → Prop) (w : World) (v : Value) (L : Lay) (x : Route × Value × Value × Value) (hL : LayAt B w v L) (hx : SlR B w x) (ok : RouteOk L x.1) (hs : L.secs.length ≤ 10) (hs2 : L.pts.length ≤ 5) (hs3 : L.sigs.length ≤ 6) :
    Calls Tryz.prog 79 #[v, .agg #[.string x.1.name, .int .i64 x.1.frm, .int .i64 x.1.to, x.2.1, x.2.2.1, x.2.2.2]] w fun r w' => r = .returned (.bool true) ∧ Ch Noone w w' := by
  have HX := Lib.hid hx; clear hx
  have OK := Lib.hid ok
  have f0 := ok.f0
  have f1 := ok.f1
  have t0 := ok.t0
  have t1 := ok.t1
  have hne : (x.1.frm == x.1.to) = false := by simpa using ok.ne
  have hpl := ok.path.2.2.2
  have HNL := Lib.hid (needs_le ok.pts)
  have HCnt := Lib.hid ok.count
  clear ok
  have HL := Lib.hid hL
  obtain ⟨v1, v2, v3, v4, rs, rfl, h1, h2, h3, h4, h5, h6⟩ := hL
  have H2 := Lib.hid h2
  have H5 := Lib.hid h5
  have H1 := Lib.hid h1
  clear h4 h6
  obtain ⟨a1, c1, rfl, -, -, -, -⟩ := h1
  obtain ⟨a2, c2, rfl, -, -, -, -⟩ := h2
  obtain ⟨a3, c3, rfl, -, -, -, -⟩ := h3
  obtain ⟨a4, c4, rfl, -, -, -, -⟩ := h5
  clear H1 H5
  obtain ⟨rt, vp, vn, vf⟩ := x
  dsimp only at *
  have HV : Hid (∃ a c, vn = .slice a rt.pts.length c) := by obtain ⟨a, c, e, _⟩ := HX.out.2.1; exact ⟨a, c, e⟩
  obtain ⟨an, cn, rfl⟩ := HV.out
  clear HV
  have B0 : Blk ((w.alloc (.cells #[.slice a1 L.secs.length c1, .slice a2 L.pts.length c2, .slice a3 L.sigs.length c3, .slice a4 rs.length c4] 26)).alloc (.cells #[.string rt.name, .int .i64 rt.frm, .int .i64 rt.to, vp, .slice an rt.pts.length cn, vf] 54)) w.heap.size 26 #[.slice a1 L.secs.length c1, .slice a2 L.pts.length c2, .slice a3 L.sigs.length c3, .slice a4 rs.length c4] := (Blk.new _ _ _).alloc _
  have R0 : Blk ((w.alloc (.cells #[.slice a1 L.secs.length c1, .slice a2 L.pts.length c2, .slice a3 L.sigs.length c3, .slice a4 rs.length c4] 26)).alloc (.cells #[.string rt.name, .int .i64 rt.frm, .int .i64 rt.to, vp, .slice an rt.pts.length cn, vf] 54)) (w.heap.size + 1) 54 #[.string rt.name, .int .i64 rt.frm, .int .i64 rt.to, vp, .slice an rt.pts.length cn, vf] := by
    have := Blk.new (w.alloc (.cells #[.slice a1 L.secs.length c1, .slice a2 L.pts.length c2, .slice a3 L.sigs.length c3, .slice a4 rs.length c4] 26)) 54 #[.string rt.name, .int .i64 rt.frm, .int .i64 rt.to, vp, .slice an rt.pts.length cn, vf]
    simpa using this
  have C0 : Ch Noone w ((w.alloc (.cells #[.slice a1 L.secs.length c1, .slice a2 L.pts.length c2, .slice a3 L.sigs.length c3, .slice a4 rs.length c4] 26)).alloc (.cells #[.string rt.name, .int .i64 rt.frm, .int .i64 rt.to, vp, .slice an rt.pts.length cn, vf] 54)) := ((Ch.refl _ _).alloc _).alloc _
  go_enter Tryz.func79, Tryz.ntmps79
  go_wp2_with fail
  refine (isIn_yes _ _ _ _ f0 (by omega)).mono ?_
  rintro e w1 ⟨rfl, rfl⟩
  go_wp2_with fail
  refine (isIn_yes _ _ _ _ t0 (by omega)).mono ?_
  rintro e w1 ⟨rfl, rfl⟩
  go_wp2_with fail
  refine (isPath_yes B _ _ _ L rt.path (HL.out.ch0 C0) (HX.out.1.ch0 C0) OK.out.path hs).mono ?_
  rintro e w1 ⟨rfl, c1⟩
  replace B0 := c1.blk B0 (fun h => h)
  replace R0 := c1.blk R0 (fun h => h)
  replace C0 := C0.trans c1
  clear c1
  have l0 := B0.cell 0
  have l1 := B0.cell 1
  have l2 := B0.cell 2
  have l3 := B0.cell 3
  have r3 := R0.cell 3
  have r4 := R0.cell 4
  have r5 := R0.cell 5
  simp only [List.getElem?_toArray, List.getElem?_cons_zero, List.getElem?_cons_succ] at l0 l1 l2 l3 r3 r4 r5
  go_wp2_with fail
  refine (areNeeds_yes B _ _ _ _ L rt.pts rt.path true (HL.out.ch0 C0) (HX.out.2.1.ch0 C0) (HX.out.1.ch0 C0) OK.out.pts hpl hs2).mono ?_
  rintro e w2 ⟨rfl, c2⟩
  clear l0 l1 l2 l3 r3 r4 r5
  replace B0 := c2.blk B0 (fun h => h)
  replace R0 := c2.blk R0 (fun h => h)
  replace C0 := C0.trans c2
  clear c2
  have l0 := B0.cell 0
  have l1 := B0.cell 1
  have l2 := B0.cell 2
  have l3 := B0.cell 3
  have r3 := R0.cell 3
  have r4 := R0.cell 4
  have r5 := R0.cell 5
  simp only [List.getElem?_toArray, List.getElem?_cons_zero, List.getElem?_cons_succ] at l0 l1 l2 l3 r3 r4 r5
  go_wp2_with fail
  refine (areNeeds_yes B _ _ _ _ L rt.flank rt.path false (HL.out.ch0 C0) (HX.out.2.2.ch0 C0) (HX.out.1.ch0 C0) OK.out.flank hpl hs2).mono ?_
  rintro e w3 ⟨rfl, c3⟩
  clear l0 l1 l2 l3 r3 r4 r5
  replace B0 := c3.blk B0 (fun h => h)
  replace R0 := c3.blk R0 (fun h => h)
  replace C0 := C0.trans c3
  clear c3
  have l1 := B0.cell 1
  simp only [List.getElem?_toArray, List.getElem?_cons_zero, List.getElem?_cons_succ] at l1
  go_wp2_with fail
  clear l1
  go_loopw [6, 8, 60] (fun q _ i wr => ∃ k : Nat, k ≤ L.pts.length ∧ i = .int .i64 k ∧ q = .int .i64 (countB (L.pts.take k) rt.path) ∧ Ch Noone w wr ∧ Blk wr (w.heap.size + 1) 54 #[.string rt.name, .int .i64 rt.frm, .int .i64 rt.to, vp, .slice an rt.pts.length cn, vf]) (fun _ _ i _ => (L.pts.length - intOf i).toNat)
  case atStart => exact ⟨0, by omega, rfl, rfl, C0, R0⟩
  case round =>
    clear B0 R0 C0
    obtain ⟨k, hk, rfl, rfl, hch, hb⟩ := hrel
    by_cases hkl : k < L.pts.length
    · obtain ⟨b2, off2, rfl, -, -, hat2⟩ := (H2.out.ch0 hch).at (f := fPnt) (C := 2) (fun _ => rfl) (by omega) hkl
      have z0 : wr.cell? ⟨b2, off2 + k * 2, none⟩ = some (.string L.pts[k].name) := hat2 0 (by omega)
      have z1 : wr.cell? ⟨b2, off2 + k * 2 + 1, none⟩ = some (.int .i64 L.pts[k].sec) := hat2 1 (by omega)
      clear hat2
      have r3 := hb.cell 3
      simp only [List.getElem?_toArray, List.getElem?_cons_zero, List.getElem?_cons_succ] at r3
      have r3' : (wr.alloc (.cells #[.string L.pts[k].name, .int .i64 L.pts[k].sec] 88)).cell? ⟨w.heap.size + 1, 3, none⟩ = some vp := (World.cell?_alloc_lt _ _ _ hb.lt).trans r3
      have HC := Lib.hid (slcontains_int B (wr.alloc (.cells #[.string L.pts[k].name, .int .i64 L.pts[k].sec] 88)) vp rt.path L.pts[k].sec (HX.out.1.ch0 (hch.alloc _)) (by omega))
      have hle := count_le L.pts rt.path k
      have HT := Lib.hid (count_take L.pts rt.path k hkl)
      cases hh : hasB rt.path L.pts[k].sec with
      | true =>
        rw [show (rt.path.any fun y => L.pts[k].sec == y) = true from hh] at HC
        have HH := Lib.hid hh; clear hh
        generalize L.pts[k] = y at *
        go_wp2_with fail
        refine (HC.out).mono ?_
        rintro e w1 ⟨rfl, rfl⟩
        go_wp2_with fail
        go_roundw
        case rel => exact ⟨k + 1, by omega, by go_num, by rw [HT.out, if_pos HH.out]; go_num, hch.alloc _, hb.alloc _⟩
        case measure => simp [intOf]; omega
      | false =>
        rw [show (rt.path.any fun y => L.pts[k].sec == y) = false from hh] at HC
        have HH := Lib.hid hh; clear hh
        generalize L.pts[k] = y at *
        go_wp2_with fail
        refine (HC.out).mono ?_
        rintro e w1 ⟨rfl, rfl⟩
        go_wp2_with fail
        go_roundw
        case rel => exact ⟨k + 1, by omega, by go_num, by rw [HT.out, if_neg (by rw [HH.out]; simp)]; go_num, hch.alloc _, hb.alloc _⟩
        case measure => simp [intOf]; omega
    · have r4 := hb.cell 4
      simp only [List.getElem?_toArray, List.getElem?_cons_zero, List.getElem?_cons_succ] at r4
      have HF : Hid (countB (L.pts.take k) rt.path = rt.pts.length) := by
        unfold Hid; rw [List.take_of_length_le (by omega), HCnt.out]
      go_wp2_with fail
      go_ret
      exact ⟨by simp; rw [HF.out], hch⟩
end Go.Proofs.YtkplgggdidhnoaaGreatDoor
