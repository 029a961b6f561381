/-
  lock: later, used, step: how a route stands next. Conditions: sizes. lock: step: how a route stands next. Conditions: sizes.
-/
import Derived.Test.YtkplgggdidhnoaaGreatDoorM24
namespace Go.Proofs.YtkplgggdidhnoaaGreatDoor
open Go.ChangeShapes Go.WideShapes Go.ChangeAt Go.RowKit
set_option linter.unusedVariables false

def RS.agg (x : RS) : Value := .agg #[.int .i64 x.mode, .int .i64 x.timer, .int .i64 x.gone, .bool x.seen]
/-- A route that waits on, for so long at most. -/
def RS.later (x : RS) (most : Int) : RS := if most < x.timer + 1 then RS.idle else { x with timer := x.timer + 1 }

set_option maxHeartbeats 2000000 in
theorem later_any (w : World) (x : RS) (most : Int) (h0 : 0 ≤ x.timer) (h1 : x.timer ≤ 100) :
    Calls Tryz.prog 159 #[x.agg, .int .i64 most] w fun e w' => e = .returned (x.later most).agg ∧ Ch Noone w w' := by
  obtain ⟨xm, xt, xg, xs⟩ := x
  dsimp only [RS.agg] at *
  have key : ∀ (A : Array Value) (y0 y1 y2 : Int) (y3 : Bool), Blk ((w.alloc (.cells A 168)).alloc (.cells #[.int .i64 y0, .int .i64 y1, .int .i64 y2, .bool y3] 168)) (w.heap.size + 1) 168 #[.int .i64 y0, .int .i64 y1, .int .i64 y2, .bool y3] := fun _ _ _ _ _ => Blk.new2 _ _ _ _
  have KEY := Lib.hid key
  clear key
  by_cases hm : most < xt + 1
  · have HS : Hid ((⟨xm, xt, xg, xs⟩ : RS).later most = RS.idle) := if_pos hm
    rw [HS.out]
    go_enter Tryz.func159, Tryz.ntmps159
    go_wp2_with fail
    refine bodyPost_ret (results_cell_row (P := Tryz.prog) rfl _ _ (w.heap.size + 1) _ _ _ _ rfl (KEY.out _ _ _ _ _) Tryz.underlying168 rfl (by kernel_rfl)) rfl ?_
    exact ⟨rfl, ((Ch.refl _ _).alloc _).alloc _⟩
  · have HS : Hid ((⟨xm, xt, xg, xs⟩ : RS).later most = ⟨xm, xt + 1, xg, xs⟩) := if_neg hm
    have hm' : xt + 1 ≤ most := by omega
    clear hm
    rw [HS.out]
    go_enter Tryz.func159, Tryz.ntmps159
    go_wp2_with fail
    refine bodyPost_ret (results_cell_row (P := Tryz.prog) rfl _ _ (w.heap.size + 1) _ _ _ _ rfl (KEY.out _ _ _ _ _) Tryz.underlying168 rfl (by kernel_rfl)) rfl ?_
    exact ⟨rfl, ((Ch.refl _ _).alloc _).alloc _⟩

/-- How a route that is Used stands next. -/
def RS.used (x : RS) (path : List Int) (occ : List Bool) : RS :=
  let y : RS := if occB occ (path.getD x.gone.toNat 0) = true then { x with seen := true } else if x.seen = true then { x with gone := x.gone + 1, seen := false } else x
  if (path.length : Int) ≤ y.gone then RS.idle else y

theorem Blk.put4 {W : World} {b : Nat} {T : TypeId} {a0 a1 a2 a3 : Value} (h : Blk W b T #[a0, a1, a2, a3]) (x0 x1 x2 x3 : Value) : Blk ((((W.setCell ⟨b, 0, none⟩ x0).setCell ⟨b, 1, none⟩ x1).setCell ⟨b, 2, none⟩ x2).setCell ⟨b, 3, none⟩ x3) b T #[x0, x1, x2, x3] := by
  have := (((h.set 0 x0).set 1 x1).set 2 x2).set 3 x3
  simpa using this
theorem Ch.new4 {w W : World} (h : Ch Noone w W) {b : Nat} (hb : w.heap.size ≤ b) (x0 x1 x2 x3 : Value) : Ch Noone w ((((W.setCell ⟨b, 0, none⟩ x0).setCell ⟨b, 1, none⟩ x1).setCell ⟨b, 2, none⟩ x2).setCell ⟨b, 3, none⟩ x3) :=
  (((h.set (fun h => absurd h (by omega)) 0 x0).set (fun h => absurd h (by omega)) 1 x1).set (fun h => absurd h (by omega)) 2 x2).set (fun h => absurd h (by omega)) 3 x3

set_option maxRecDepth 100000 in
set_option maxHeartbeats 4000000 in
theorem used_any (O B : Nat → Prop) (w : World) (b : Nat) (L : Lay) (rs : List RS) (v : Value) (occ : List Bool) (lies : List Int) (r : Nat) (h : LockAt O w b L rs) (ok : LayOk L) (hI : InR B w v occ lies) (ho : occ.length = L.secs.length) (hr : r < rs.length) (hr' : r < L.routes.length) (hm : rs[r].mode = 3) :
    Calls Tryz.prog 160 #[.pointer (some ⟨b, 0, none⟩), v, .int .i64 r] w fun e w' => e = .returned (rs[r].used L.routes[r].path occ).agg ∧ Ch Noone w w' := by
  obtain ⟨v1, v2, rfl, -, -⟩ := id hI
  obtain ⟨q1, q2, q3, b4, o4, c4, g, c5, pa, pc, H⟩ := h.at hr hr'
  obtain ⟨-, -, g0⟩ := h.2.1.ok r hr hr'
  obtain ⟨g0, g1⟩ := g0 hm
  have hpo := (ok.route _ (List.getElem_mem hr')).path.1
  have hpl := (ok.route _ (List.getElem_mem hr')).path.2.2.2
  have hso := ok.s1
  have H' := H.path
  obtain ⟨w0, hw0⟩ : ∃ w0, w0 = (w.alloc (.cells #[v1, v2] 133)).alloc (.cells #[.int .i64 0, .int .i64 0, .int .i64 0, .bool false] 168) := ⟨_, rfl⟩
  have c0 : Ch Noone w w0 := by rw [hw0]; exact ((Ch.refl _ _).alloc _).alloc _
  have bi : Blk w0 w.heap.size 133 #[v1, v2] := by rw [hw0]; exact (Blk.new _ _ _).alloc _
  have bz : Blk w0 (w.heap.size + 1) 168 #[.int .i64 0, .int .i64 0, .int .i64 0, .bool false] := by rw [hw0]; exact Blk.new2 _ _ _ _
  have hh := H.ch0 c0
  have HI := hI.ch0 c0
  clear hI H h ok
  have HS : Hid (∀ W', Ch Noone w0 W' → W'.cell? ⟨b, 3, none⟩ = some (.slice (some ⟨b4, o4, none⟩) rs.length c4) ∧ W'.cell? ⟨b, 4, none⟩ = some (.slice (some ⟨g, 0, none⟩) rs.length c5) ∧ W'.cell? ⟨b4, o4 + r * 6 + 3, none⟩ = some (.slice pa L.routes[r].path.length pc) ∧
      W'.cell? ⟨g, r * 4, none⟩ = some (.int .i64 rs[r].mode) ∧ W'.cell? ⟨g, r * 4 + 1, none⟩ = some (.int .i64 rs[r].timer) ∧ W'.cell? ⟨g, r * 4 + 2, none⟩ = some (.int .i64 rs[r].gone) ∧ W'.cell? ⟨g, r * 4 + 3, none⟩ = some (.bool rs[r].seen)) := fun W' c =>
    ⟨(c.blk hh.blk (fun h => h)).cell 3, (c.blk hh.blk (fun h => h)).cell 4, (c.rd hh.l4 _).trans hh.rc.2.2.2, (c.rd hh.lg _).trans hh.xc.1, (c.rd hh.lg _).trans hh.xc.2.1, (c.rd hh.lg _).trans hh.xc.2.2.1, (c.rd hh.lg _).trans hh.xc.2.2.2⟩
  have HP := hh.path
  have k4 := hh.k4
  have k5 := hh.k5
  clear hh H'
  generalize L.routes[r].path = p at *
  generalize rs[r] = x at *
  obtain ⟨xm, xt, xg, xs⟩ := x
  dsimp only at *
  subst hm
  obtain ⟨k, rfl⟩ : ∃ k : Nat, xg = k := ⟨xg.toNat, by omega⟩
  have hk : k < p.length := by omega
  obtain ⟨pb, po, rfl, -, hpb, hat⟩ := HP.at (f := fInt) (C := 1) (fun _ => rfl) (by omega) hk
  have ye := hat 0 (by omega)
  rw [Nat.mul_one] at ye
  have z0 : w0.cell? ⟨pb, po + k, none⟩ = some (.int .i64 p[k]) := ye
  obtain ⟨s0, s1⟩ := hpo _ (List.getElem_mem hk)
  have hpk : p.getD k 0 = p[k] := by simp [hk]
  generalize hsn : p[k] = sec at *
  obtain ⟨sn, rfl⟩ : ∃ sn : Nat, sec = sn := ⟨sec.toNat, by omega⟩
  have hsl : sn < occ.length := by omega
  obtain ⟨b1, o1, c1, rfl, k1, -, hb1, z1⟩ := HI.occ hsl
  have hoc : occB occ sn = occ[sn] := by unfold occB; simp [hsl]
  generalize occ[sn] = oy at *
  have z2 : w0.cell? ⟨w.heap.size, 0, none⟩ = some (.slice (some ⟨b1, o1, none⟩) occ.length c1) := bi.cell 0
  have lw : w.heap.size < w0.heap.size := bi.lt
  have lz : w.heap.size + 1 < w0.heap.size := bz.lt
  have BZ := Lib.hid bz
  have t0 : w0.cell? ⟨w.heap.size + 1, 0, none⟩ = some (.int .i64 0) := bz.cell 0
  have t1 : w0.cell? ⟨w.heap.size + 1, 1, none⟩ = some (.int .i64 0) := bz.cell 1
  have t2 : w0.cell? ⟨w.heap.size + 1, 2, none⟩ = some (.int .i64 0) := bz.cell 2
  have t3 : w0.cell? ⟨w.heap.size + 1, 3, none⟩ = some (.bool false) := bz.cell 3
  have f0 := bz.free 0
  have f1 := bz.free 1
  have f2 := bz.free 2
  have f3 := bz.free 3
  have HR : Hid ((⟨3, xt, k, xs⟩ : RS).used p occ = if (p.length : Int) ≤ (if oy = true then (⟨3, xt, k, true⟩ : RS) else if xs = true then ⟨3, xt, k + 1, false⟩ else ⟨3, xt, k, xs⟩).gone then RS.idle else (if oy = true then (⟨3, xt, k, true⟩ : RS) else if xs = true then ⟨3, xt, k + 1, false⟩ else ⟨3, xt, k, xs⟩)) := by
    unfold Hid RS.used
    simp only [Int.toNat_natCast, hpk, hoc]
  rw [HR.out]
  have HW0 := Lib.hid hw0
  have C0 := Lib.hid c0
  have hr0 : (0 : Int) ≤ r := by omega
  have hr1 : (r : Int) < rs.length := by omega
  have hk0 : (0 : Int) ≤ k := by omega
  have hk1 : (k : Int) < p.length := by omega
  have hs0 : (0 : Int) ≤ sn := by omega
  have hs1 : (sn : Int) < occ.length := by omega
  clear hw0 c0 bi bz HI hpo hat ye s0 s1 hpk hsn hoc HP g0 g1 HR ho
  have FIN : Hid (∀ (W : World) (x0 x1 x2 x3 : Value), Blk W (w.heap.size + 1) 168 #[.int .i64 0, .int .i64 0, .int .i64 0, .bool false] ∧ Ch Noone w W → Blk ((((W.setCell ⟨w.heap.size + 1, 0, none⟩ x0).setCell ⟨w.heap.size + 1, 1, none⟩ x1).setCell ⟨w.heap.size + 1, 2, none⟩ x2).setCell ⟨w.heap.size + 1, 3, none⟩ x3) (w.heap.size + 1) 168 #[x0, x1, x2, x3] ∧
      Ch Noone w ((((W.setCell ⟨w.heap.size + 1, 0, none⟩ x0).setCell ⟨w.heap.size + 1, 1, none⟩ x1).setCell ⟨w.heap.size + 1, 2, none⟩ x2).setCell ⟨w.heap.size + 1, 3, none⟩ x3)) := fun W x0 x1 x2 x3 h => ⟨Blk.put4 h.1 _ _ _ _, Ch.new4 h.2 (by omega) _ _ _ _⟩
  have FA : Hid (∀ (A : Array Value) (n : Nat), Blk ((w0.alloc (.cells A 168)).drewN n) (w.heap.size + 1) 168 #[.int .i64 0, .int .i64 0, .int .i64 0, .bool false] ∧ Ch Noone w ((w0.alloc (.cells A 168)).drewN n)) := fun A n => ⟨BZ.out.alloc _, (C0.out.alloc _).drewN n⟩
  have FB : Hid (∀ (W : World) (i : Nat) (x : Value), Blk W (w.heap.size + 1) 168 #[.int .i64 0, .int .i64 0, .int .i64 0, .bool false] ∧ Ch Noone w W → Blk (W.setCell ⟨w0.heap.size, i, none⟩ x) (w.heap.size + 1) 168 #[.int .i64 0, .int .i64 0, .int .i64 0, .bool false] ∧ Ch Noone w (W.setCell ⟨w0.heap.size, i, none⟩ x)) := fun W i x h => ⟨h.1.other (by omega) _ _, h.2.set (fun h => absurd h (by omega)) _ _⟩
  cases oy
  · simp only [Bool.false_eq_true, if_false]
    cases xs
    · simp only [Bool.false_eq_true, if_false]
      rw [if_neg (by show ¬ ((p.length : Int) ≤ k); omega)]
      go_enter Tryz.func160, Tryz.ntmps160
      go_wp2_with fail
      rw [← HW0.out]
      go_region_held3 (fun W' => W'.cell? ⟨b, 3, none⟩ = some (.slice (some ⟨b4, o4, none⟩) rs.length c4) ∧ W'.cell? ⟨b, 4, none⟩ = some (.slice (some ⟨g, 0, none⟩) rs.length c5) ∧ W'.cell? ⟨b4, o4 + r * 6 + 3, none⟩ = some (.slice (some ⟨pb, po, none⟩) p.length pc) ∧
          W'.cell? ⟨g, r * 4, none⟩ = some (.int .i64 3) ∧ W'.cell? ⟨g, r * 4 + 1, none⟩ = some (.int .i64 xt) ∧ W'.cell? ⟨g, r * 4 + 2, none⟩ = some (.int .i64 k) ∧ W'.cell? ⟨g, r * 4 + 3, none⟩ = some (.bool false))
        ((refine HS.out _ ?_; repeat (first | exact Ch.refl _ _ | apply Ch.drew | apply Ch.alloc | (refine Ch.set ?_ (fun h => absurd h (by simp)) _ _)))) (fail)
      go_wp2_with fail
      go_quiet (fail)
      go_wp2_with fail
      refine bodyPost_ret (results_cell_row (P := Tryz.prog) rfl _ _ (w.heap.size + 1) _ _ _ _ rfl (FIN.out _ _ _ _ _ (FA.out _ _)).1 Tryz.underlying168 rfl (by kernel_rfl)) rfl ?_
      exact ⟨rfl, (FIN.out _ _ _ _ _ (FA.out _ _)).2⟩
    · simp only [if_true]
      by_cases hend : (p.length : Int) ≤ (k : Int) + 1
      · rw [if_pos hend]
        have hge : (k : Int) + 1 ≥ (p.length : Int) := hend
        clear hend
        go_enter Tryz.func160, Tryz.ntmps160
        go_wp2_with fail
        rw [← HW0.out]
        go_region_held3 (fun W' => W'.cell? ⟨b, 3, none⟩ = some (.slice (some ⟨b4, o4, none⟩) rs.length c4) ∧ W'.cell? ⟨b, 4, none⟩ = some (.slice (some ⟨g, 0, none⟩) rs.length c5) ∧ W'.cell? ⟨b4, o4 + r * 6 + 3, none⟩ = some (.slice (some ⟨pb, po, none⟩) p.length pc) ∧
            W'.cell? ⟨g, r * 4, none⟩ = some (.int .i64 3) ∧ W'.cell? ⟨g, r * 4 + 1, none⟩ = some (.int .i64 xt) ∧ W'.cell? ⟨g, r * 4 + 2, none⟩ = some (.int .i64 k) ∧ W'.cell? ⟨g, r * 4 + 3, none⟩ = some (.bool true))
          ((refine HS.out _ ?_; repeat (first | exact Ch.refl _ _ | apply Ch.drew | apply Ch.alloc | (refine Ch.set ?_ (fun h => absurd h (by simp)) _ _)))) (fail)
        go_wp2_with fail
        go_quiet (fail)
        go_wp2_with fail
        refine bodyPost_ret (results_cell_row (P := Tryz.prog) rfl _ _ (w.heap.size + 1) _ _ _ _ rfl (FIN.out _ _ _ _ _ (FB.out _ _ _ (FB.out _ _ _ (FA.out _ _)))).1 Tryz.underlying168 rfl (by kernel_rfl)) rfl ?_
        exact ⟨rfl, (FIN.out _ _ _ _ _ (FB.out _ _ _ (FB.out _ _ _ (FA.out _ _)))).2⟩
      · rw [if_neg hend]
        have hlt : (k : Int) + 1 < p.length := by omega
        clear hend
        go_enter Tryz.func160, Tryz.ntmps160
        go_wp2_with fail
        rw [← HW0.out]
        go_region_held3 (fun W' => W'.cell? ⟨b, 3, none⟩ = some (.slice (some ⟨b4, o4, none⟩) rs.length c4) ∧ W'.cell? ⟨b, 4, none⟩ = some (.slice (some ⟨g, 0, none⟩) rs.length c5) ∧ W'.cell? ⟨b4, o4 + r * 6 + 3, none⟩ = some (.slice (some ⟨pb, po, none⟩) p.length pc) ∧
            W'.cell? ⟨g, r * 4, none⟩ = some (.int .i64 3) ∧ W'.cell? ⟨g, r * 4 + 1, none⟩ = some (.int .i64 xt) ∧ W'.cell? ⟨g, r * 4 + 2, none⟩ = some (.int .i64 k) ∧ W'.cell? ⟨g, r * 4 + 3, none⟩ = some (.bool true))
          ((refine HS.out _ ?_; repeat (first | exact Ch.refl _ _ | apply Ch.drew | apply Ch.alloc | (refine Ch.set ?_ (fun h => absurd h (by simp)) _ _)))) (fail)
        go_wp2_with fail
        go_quiet (fail)
        go_wp2_with fail
        refine bodyPost_ret (results_cell_row (P := Tryz.prog) rfl _ _ (w.heap.size + 1) _ _ _ _ rfl (FIN.out _ _ _ _ _ (FB.out _ _ _ (FB.out _ _ _ (FA.out _ _)))).1 Tryz.underlying168 rfl (by kernel_rfl)) rfl ?_
        exact ⟨rfl, (FIN.out _ _ _ _ _ (FB.out _ _ _ (FB.out _ _ _ (FA.out _ _)))).2⟩
  · simp only [if_true]
    rw [if_neg (by show ¬ ((p.length : Int) ≤ k); omega)]
    go_enter Tryz.func160, Tryz.ntmps160
    go_wp2_with fail
    rw [← HW0.out]
    go_region_held3 (fun W' => W'.cell? ⟨b, 3, none⟩ = some (.slice (some ⟨b4, o4, none⟩) rs.length c4) ∧ W'.cell? ⟨b, 4, none⟩ = some (.slice (some ⟨g, 0, none⟩) rs.length c5) ∧ W'.cell? ⟨b4, o4 + r * 6 + 3, none⟩ = some (.slice (some ⟨pb, po, none⟩) p.length pc) ∧
        W'.cell? ⟨g, r * 4, none⟩ = some (.int .i64 3) ∧ W'.cell? ⟨g, r * 4 + 1, none⟩ = some (.int .i64 xt) ∧ W'.cell? ⟨g, r * 4 + 2, none⟩ = some (.int .i64 k) ∧ W'.cell? ⟨g, r * 4 + 3, none⟩ = some (.bool xs))
      ((refine HS.out _ ?_; repeat (first | exact Ch.refl _ _ | apply Ch.drew | apply Ch.alloc | (refine Ch.set ?_ (fun h => absurd h (by simp)) _ _)))) (fail)
    go_wp2_with fail
    go_quiet (fail)
    go_wp2_with fail
    refine bodyPost_ret (results_cell_row (P := Tryz.prog) rfl _ _ (w.heap.size + 1) _ _ _ _ rfl (FIN.out _ _ _ _ _ (FB.out _ _ _ (FA.out _ _))).1 Tryz.underlying168 rfl (by kernel_rfl)) rfl ?_
    exact ⟨rfl, (FIN.out _ _ _ _ _ (FB.out _ _ _ (FA.out _ _))).2⟩
end Go.Proofs.YtkplgggdidhnoaaGreatDoor

namespace Go.Proofs.YtkplgggdidhnoaaGreatDoor
open Go.ChangeShapes Go.WideShapes Go.ChangeAt Go.RowKit
set_option linter.unusedVariables false

/-- How a route stands next. -/
def RS.step (x : RS) (R : Route) (occ : List Bool) (lies : List Int) : RS :=
  if x.mode = 1 then (if R.needs.all (lieB lies) = true then ⟨2, 0, 0, false⟩ else x.later 8)
  else if x.mode = 2 ∨ x.mode = 4 then (if occB occ (R.path.getD 0 0) = true then ⟨3, 0, 0, true⟩ else if x.mode = 4 then x.later 5 else x)
  else if x.mode = 3 then x.used R.path occ else x

set_option maxRecDepth 100000 in
set_option maxHeartbeats 4000000 in
theorem step_any (O B : Nat → Prop) (w : World) (b : Nat) (L : Lay) (rs : List RS) (v : Value) (occ : List Bool) (lies : List Int) (r : Nat) (h : LockAt O w b L rs) (ok : LayOk L) (hI : InR B w v occ lies) (ho : occ.length = L.secs.length) (hl : lies.length = L.pts.length) (hr : r < rs.length) (hr' : r < L.routes.length) :
    Calls Tryz.prog 150 #[.pointer (some ⟨b, 0, none⟩), v, .int .i64 r] w fun e w' => e = .returned (rs[r].step L.routes[r] occ lies).agg ∧ Ch Noone w w' := by
  obtain ⟨v1, v2, rfl, -, -⟩ := id hI
  obtain ⟨q1, q2, q3, b4, o4, c4, g, c5, pa, pc, H⟩ := h.at hr hr'
  obtain ⟨g0, g1, -⟩ := h.2.1.ok r hr hr'
  have hpo := (ok.route _ (List.getElem_mem hr')).path.1
  have hpl := (ok.route _ (List.getElem_mem hr')).path.2.2.1
  have hpm := (ok.route _ (List.getElem_mem hr')).path.2.2.2
  have hso := ok.s1
  have OK := Lib.hid ok
  have HK := Lib.hid h
  have HIn := Lib.hid hI
  have HO := Lib.hid ho
  have HL := Lib.hid hl
  have l4 : w.cell? ⟨b, 4, none⟩ = some (.slice (some ⟨g, 0, none⟩) rs.length c5) := H.blk.cell 4
  have hbl := H.blk.lt
  have hgl := H.lg
  obtain ⟨y0, y1, y2, y3⟩ := H.xc
  have HH := Lib.hid H
  have k4 := H.k4
  have k5 := H.k5
  obtain ⟨w0, hw0⟩ : ∃ w0, w0 = ((w.alloc (.cells #[v1, v2] 133)).alloc (.cells #[.int .i64 0, .int .i64 0, .int .i64 0, .bool false] 168)).alloc (.cells #[.int .i64 rs[r].mode, .int .i64 rs[r].timer, .int .i64 rs[r].gone, .bool rs[r].seen] 168) := ⟨_, rfl⟩
  have c0 : Ch Noone w w0 := by rw [hw0]; exact (((Ch.refl _ _).alloc _).alloc _).alloc _
  have bi : Blk w0 w.heap.size 133 #[v1, v2] := by rw [hw0]; exact ((Blk.new _ _ _).alloc _).alloc _
  have bz : Blk w0 (w.heap.size + 1) 168 #[.int .i64 0, .int .i64 0, .int .i64 0, .bool false] := by rw [hw0]; exact (Blk.new2 _ _ _ _).alloc _
  have bx : Blk w0 (w.heap.size + 1 + 1) 168 #[.int .i64 rs[r].mode, .int .i64 rs[r].timer, .int .i64 rs[r].gone, .bool rs[r].seen] := by rw [hw0]; exact Blk.newk _ _ (by simp) _ _
  have hh := H.ch0 c0
  have HI := hI.ch0 c0
  have z3 : w0.cell? ⟨b, 3, none⟩ = some (.slice (some ⟨b4, o4, none⟩) rs.length c4) := hh.blk.cell 3
  have z4 : w0.cell? ⟨b4, o4 + r * 6 + 3, none⟩ = some (.slice pa L.routes[r].path.length pc) := hh.rc.2.2.2
  have HUs : Hid (rs[r].mode = 3 → ∀ k, _) := fun hm k => used_any O B (w0.drewN k) b L rs _ occ lies r ((h.ch0 c0).ch0 ((Ch.refl _ _).drewN k)) ok (HI.ch0 ((Ch.refl _ _).drewN k)) ho hr hr' hm
  have HAl : Hid (∀ k, _) := fun k => allLie_any O B (w0.drewN k) b L rs _ occ lies r ((h.ch0 c0).ch0 ((Ch.refl _ _).drewN k)) ok (HI.ch0 ((Ch.refl _ _).drewN k)) hl hr'
  have HP := hh.path
  generalize hp : L.routes[r].path = p at *
  have HPa := Lib.hid hp
  clear hI h ok H hh hp
  have hk : 0 < p.length := by omega
  obtain ⟨pb, po, rfl, -, hpb, hat⟩ := HP.at (f := fInt) (C := 1) (fun _ => rfl) (by omega) hk
  have ye := hat 0 (by omega)
  rw [Nat.zero_mul, Nat.add_zero] at ye
  have z5 : w0.cell? ⟨pb, po, none⟩ = some (.int .i64 p[0]) := ye
  obtain ⟨s0, s1⟩ := hpo _ (List.getElem_mem hk)
  have hpk : p.getD 0 0 = p[0] := by simp [hk]
  generalize hsn : p[0] = sec at *
  obtain ⟨sn, rfl⟩ : ∃ sn : Nat, sec = sn := ⟨sec.toNat, by omega⟩
  have hsl : sn < occ.length := by omega
  obtain ⟨b1, o1, c1, rfl, k1, -, hb1, z6⟩ := HI.occ hsl
  have hoc : occB occ sn = occ[sn] := by unfold occB; simp [hsl]
  generalize occ[sn] = oy at *
  have z7 : w0.cell? ⟨w.heap.size, 0, none⟩ = some (.slice (some ⟨b1, o1, none⟩) occ.length c1) := bi.cell 0
  have z8 : w0.cell? ⟨w.heap.size, 1, none⟩ = some v2 := bi.cell 1
  have HR : Hid (rs[r].step L.routes[r] occ lies = if rs[r].mode = 1 then (if L.routes[r].needs.all (lieB lies) = true then ⟨2, 0, 0, false⟩ else rs[r].later 8)
      else if rs[r].mode = 2 ∨ rs[r].mode = 4 then (if oy = true then ⟨3, 0, 0, true⟩ else if rs[r].mode = 4 then rs[r].later 5 else rs[r])
      else if rs[r].mode = 3 then rs[r].used p occ else rs[r]) := by
    unfold Hid RS.step
    rw [HPa.out, hpk, hoc]
  rw [HR.out]
  have HW0 := Lib.hid hw0
  have C0 := Lib.hid c0
  have BZ := Lib.hid bz
  have BX := Lib.hid bx
  have hr0 : (0 : Int) ≤ r := by omega
  have hr1 : (r : Int) < rs.length := by omega
  have hk1 : (0 : Int) < p.length := by omega
  have hs0 : (0 : Int) ≤ sn := by omega
  have hs1 : (sn : Int) < occ.length := by omega
  have w00 : (w.heap.size : Nat) ≤ w.heap.size + 1 := by omega
  clear hw0 c0 bi bz bx HI hpo hat ye s0 s1 hpk hsn hoc HP HR ho hl
  generalize L.routes[r].needs.all (lieB lies) = al at *
  generalize rs[r] = x at *
  obtain ⟨xm, xt, xg, xs⟩ := x
  dsimp only at *
  have HLt : Hid (∀ (W : World) (m : Int), _) := fun W m => later_any W ⟨xm, xt, xg, xs⟩ m g0 (by dsimp only; omega)
  have x0 : w0.cell? ⟨w.heap.size + 1 + 1, 0, none⟩ = some (.int .i64 xm) := BX.out.cell 0
  have x1 : w0.cell? ⟨w.heap.size + 1 + 1, 1, none⟩ = some (.int .i64 xt) := BX.out.cell 1
  have x2 : w0.cell? ⟨w.heap.size + 1 + 1, 2, none⟩ = some (.int .i64 xg) := BX.out.cell 2
  have x3 : w0.cell? ⟨w.heap.size + 1 + 1, 3, none⟩ = some (.bool xs) := BX.out.cell 3
  rcases (show xm = 1 ∨ xm = 2 ∨ xm = 4 ∨ xm = 3 ∨ (xm ≠ 1 ∧ xm ≠ 2 ∧ xm ≠ 4 ∧ xm ≠ 3) by omega) with e | e | e | e | ⟨e1, e2, e4, e3⟩
  · subst e
    rw [if_pos rfl]
    cases al
    · rw [if_neg (by decide)]
      have HLm : Hid (∀ W : World, _) := fun W => HLt.out W 8
      generalize (⟨1, xt, xg, xs⟩ : RS).later 8 = y at HLm ⊢
      obtain ⟨ym, yt, yg, ys⟩ := y
      dsimp only [RS.agg] at HLm
      go_enter Tryz.func150, Tryz.ntmps150
      go_wp2_with fail
      rw [← HW0.out]
      go_quiet (fail)
      go_wp2_with fail
      refine (HAl.out _).mono ?_
      rintro e w1 ⟨rfl, c1⟩
      have C1 : Hid (Ch Noone w0 w1) := ((Ch.refl _ _).drewN _).trans c1
      clear c1 x0 x1 x2 x3
      have bx2 := Ch.blk C1.out BX.out (fun h => h)
      have x0 : World.cell? w1 ⟨w.heap.size + 1 + 1, 0, none⟩ = some (.int .i64 1) := bx2.cell 0
      have x1 : World.cell? w1 ⟨w.heap.size + 1 + 1, 1, none⟩ = some (.int .i64 xt) := bx2.cell 1
      have x2 : World.cell? w1 ⟨w.heap.size + 1 + 1, 2, none⟩ = some (.int .i64 xg) := bx2.cell 2
      have x3 : World.cell? w1 ⟨w.heap.size + 1 + 1, 3, none⟩ = some (.bool xs) := bx2.cell 3
      clear bx2
      go_wp2_with fail
      refine (HLm.out w1).mono ?_
      rintro e w2 ⟨rfl, c2⟩
      have C2 : Hid (Ch Noone w0 w2) := Ch.trans C1.out c2
      clear c2
      have bq := Ch.blk C2.out BZ.out (fun h => h)
      have t0 : World.cell? w2 ⟨w.heap.size + 1, 0, none⟩ = some (.int .i64 0) := bq.cell 0
      have t1 : World.cell? w2 ⟨w.heap.size + 1, 1, none⟩ = some (.int .i64 0) := bq.cell 1
      have t2 : World.cell? w2 ⟨w.heap.size + 1, 2, none⟩ = some (.int .i64 0) := bq.cell 2
      have t3 : World.cell? w2 ⟨w.heap.size + 1, 3, none⟩ = some (.bool false) := bq.cell 3
      have f0 := bq.free 0
      have f1 := bq.free 1
      have f2 := bq.free 2
      have f3 := bq.free 3
      have BQ := Lib.hid bq
      clear bq
      go_wp2_with fail
      refine bodyPost_ret (results_cell_row (P := Tryz.prog) rfl _ _ (w.heap.size + 1) _ _ _ _ rfl (BQ.out.put4 _ _ _ _) Tryz.underlying168 rfl (by kernel_rfl)) rfl ?_
      exact ⟨rfl, Ch.new4 (C0.out.trans C2.out) (by omega) _ _ _ _⟩
    · rw [if_pos rfl]
      go_enter Tryz.func150, Tryz.ntmps150
      go_wp2_with fail
      rw [← HW0.out]
      go_quiet (fail)
      go_wp2_with fail
      refine (HAl.out _).mono ?_
      rintro e w1 ⟨rfl, c1⟩
      have C1 : Hid (Ch Noone w0 w1) := ((Ch.refl _ _).drewN _).trans c1
      clear c1 x0 x1 x2 x3
      have bq := Ch.blk C1.out BZ.out (fun h => h)
      have t0 : World.cell? w1 ⟨w.heap.size + 1, 0, none⟩ = some (.int .i64 0) := bq.cell 0
      have t1 : World.cell? w1 ⟨w.heap.size + 1, 1, none⟩ = some (.int .i64 0) := bq.cell 1
      have t2 : World.cell? w1 ⟨w.heap.size + 1, 2, none⟩ = some (.int .i64 0) := bq.cell 2
      have t3 : World.cell? w1 ⟨w.heap.size + 1, 3, none⟩ = some (.bool false) := bq.cell 3
      have f0 := bq.free 0
      have f1 := bq.free 1
      have f2 := bq.free 2
      have f3 := bq.free 3
      have BQ := Lib.hid bq
      clear bq
      go_wp2_with fail
      refine bodyPost_ret (results_cell_row (P := Tryz.prog) rfl _ _ (w.heap.size + 1) _ _ _ _ rfl (BQ.out.put4 _ _ _ _) Tryz.underlying168 rfl (by kernel_rfl)) rfl ?_
      exact ⟨rfl, Ch.new4 (C0.out.trans C1.out) (by omega) _ _ _ _⟩
  · subst e
    rw [if_neg (by decide), if_pos (by decide)]
    cases oy
    · rw [if_neg (by decide), if_neg (by decide)]
      have t0 : w0.cell? ⟨w.heap.size + 1, 0, none⟩ = some (.int .i64 0) := BZ.out.cell 0
      have t1 : w0.cell? ⟨w.heap.size + 1, 1, none⟩ = some (.int .i64 0) := BZ.out.cell 1
      have t2 : w0.cell? ⟨w.heap.size + 1, 2, none⟩ = some (.int .i64 0) := BZ.out.cell 2
      have t3 : w0.cell? ⟨w.heap.size + 1, 3, none⟩ = some (.bool false) := BZ.out.cell 3
      have f0 := BZ.out.free 0
      have f1 := BZ.out.free 1
      have f2 := BZ.out.free 2
      have f3 := BZ.out.free 3
      go_enter Tryz.func150, Tryz.ntmps150
      go_wp2_with fail
      rw [← HW0.out]
      go_quiet (fail)
      go_wp2_with fail
      refine bodyPost_ret (results_cell_row (P := Tryz.prog) rfl _ _ (w.heap.size + 1) _ _ _ _ rfl (Blk.put4 (W := w0.drewN nq) BZ.out _ _ _ _) Tryz.underlying168 rfl (by kernel_rfl)) rfl ?_
      exact ⟨rfl, Ch.new4 (C0.out.drewN nq) (by omega) _ _ _ _⟩
    · rw [if_pos rfl]
      have t0 : w0.cell? ⟨w.heap.size + 1, 0, none⟩ = some (.int .i64 0) := BZ.out.cell 0
      have t1 : w0.cell? ⟨w.heap.size + 1, 1, none⟩ = some (.int .i64 0) := BZ.out.cell 1
      have t2 : w0.cell? ⟨w.heap.size + 1, 2, none⟩ = some (.int .i64 0) := BZ.out.cell 2
      have t3 : w0.cell? ⟨w.heap.size + 1, 3, none⟩ = some (.bool false) := BZ.out.cell 3
      have f0 := BZ.out.free 0
      have f1 := BZ.out.free 1
      have f2 := BZ.out.free 2
      have f3 := BZ.out.free 3
      go_enter Tryz.func150, Tryz.ntmps150
      go_wp2_with fail
      rw [← HW0.out]
      go_quiet (fail)
      go_wp2_with fail
      refine bodyPost_ret (results_cell_row (P := Tryz.prog) rfl _ _ (w.heap.size + 1) _ _ _ _ rfl (Blk.put4 (W := w0.drewN nq) BZ.out _ _ _ _) Tryz.underlying168 rfl (by kernel_rfl)) rfl ?_
      exact ⟨rfl, Ch.new4 (C0.out.drewN nq) (by omega) _ _ _ _⟩
  · subst e
    rw [if_neg (by decide), if_pos (by decide)]
    cases oy
    · rw [if_neg (by decide), if_pos rfl]
      have HLm : Hid (∀ W : World, _) := fun W => HLt.out W 5
      generalize (⟨4, xt, xg, xs⟩ : RS).later 5 = y at HLm ⊢
      obtain ⟨ym, yt, yg, ys⟩ := y
      dsimp only [RS.agg] at HLm
      go_enter Tryz.func150, Tryz.ntmps150
      go_wp2_with fail
      rw [← HW0.out]
      go_quiet (fail)
      go_wp2_with fail
      refine (HLm.out _).mono ?_
      rintro e w2 ⟨rfl, c2⟩
      have C2 : Hid (Ch Noone w0 w2) := Ch.trans ((Ch.refl Noone w0).drewN _) c2
      clear c2
      have bq := Ch.blk C2.out BZ.out (fun h => h)
      have t0 : World.cell? w2 ⟨w.heap.size + 1, 0, none⟩ = some (.int .i64 0) := bq.cell 0
      have t1 : World.cell? w2 ⟨w.heap.size + 1, 1, none⟩ = some (.int .i64 0) := bq.cell 1
      have t2 : World.cell? w2 ⟨w.heap.size + 1, 2, none⟩ = some (.int .i64 0) := bq.cell 2
      have t3 : World.cell? w2 ⟨w.heap.size + 1, 3, none⟩ = some (.bool false) := bq.cell 3
      have f0 := bq.free 0
      have f1 := bq.free 1
      have f2 := bq.free 2
      have f3 := bq.free 3
      have BQ := Lib.hid bq
      clear bq
      go_wp2_with fail
      refine bodyPost_ret (results_cell_row (P := Tryz.prog) rfl _ _ (w.heap.size + 1) _ _ _ _ rfl (BQ.out.put4 _ _ _ _) Tryz.underlying168 rfl (by kernel_rfl)) rfl ?_
      exact ⟨rfl, Ch.new4 (C0.out.trans C2.out) (by omega) _ _ _ _⟩
    · rw [if_pos rfl]
      have t0 : w0.cell? ⟨w.heap.size + 1, 0, none⟩ = some (.int .i64 0) := BZ.out.cell 0
      have t1 : w0.cell? ⟨w.heap.size + 1, 1, none⟩ = some (.int .i64 0) := BZ.out.cell 1
      have t2 : w0.cell? ⟨w.heap.size + 1, 2, none⟩ = some (.int .i64 0) := BZ.out.cell 2
      have t3 : w0.cell? ⟨w.heap.size + 1, 3, none⟩ = some (.bool false) := BZ.out.cell 3
      have f0 := BZ.out.free 0
      have f1 := BZ.out.free 1
      have f2 := BZ.out.free 2
      have f3 := BZ.out.free 3
      go_enter Tryz.func150, Tryz.ntmps150
      go_wp2_with fail
      rw [← HW0.out]
      go_quiet (fail)
      go_wp2_with fail
      refine bodyPost_ret (results_cell_row (P := Tryz.prog) rfl _ _ (w.heap.size + 1) _ _ _ _ rfl (Blk.put4 (W := w0.drewN nq) BZ.out _ _ _ _) Tryz.underlying168 rfl (by kernel_rfl)) rfl ?_
      exact ⟨rfl, Ch.new4 (C0.out.drewN nq) (by omega) _ _ _ _⟩
  · subst e
    rw [if_neg (by decide), if_neg (by decide), if_pos rfl]
    have HUm := Lib.hid (HUs.out rfl)
    generalize (⟨3, xt, xg, xs⟩ : RS).used p occ = y at HUm ⊢
    obtain ⟨ym, yt, yg, ys⟩ := y
    dsimp only [RS.agg] at HUm
    go_enter Tryz.func150, Tryz.ntmps150
    go_wp2_with fail
    rw [← HW0.out]
    go_quiet (fail)
    go_wp2_with fail
    refine (HUm.out _).mono ?_
    rintro e w2 ⟨rfl, c2⟩
    have C2 : Hid (Ch Noone w0 w2) := ((Ch.refl _ _).drewN _).trans c2
    clear c2
    have bq := Ch.blk C2.out BZ.out (fun h => h)
    have t0 : World.cell? w2 ⟨w.heap.size + 1, 0, none⟩ = some (.int .i64 0) := bq.cell 0
    have t1 : World.cell? w2 ⟨w.heap.size + 1, 1, none⟩ = some (.int .i64 0) := bq.cell 1
    have t2 : World.cell? w2 ⟨w.heap.size + 1, 2, none⟩ = some (.int .i64 0) := bq.cell 2
    have t3 : World.cell? w2 ⟨w.heap.size + 1, 3, none⟩ = some (.bool false) := bq.cell 3
    have f0 := bq.free 0
    have f1 := bq.free 1
    have f2 := bq.free 2
    have f3 := bq.free 3
    have BQ := Lib.hid bq
    clear bq
    go_wp2_with fail
    refine bodyPost_ret (results_cell_row (P := Tryz.prog) rfl _ _ (w.heap.size + 1) _ _ _ _ rfl (BQ.out.put4 _ _ _ _) Tryz.underlying168 rfl (by kernel_rfl)) rfl ?_
    exact ⟨rfl, Ch.new4 (C0.out.trans C2.out) (by omega) _ _ _ _⟩
  · rw [if_neg e1, if_neg (by omega), if_neg e3]
    have e1' : (xm == 1) = false := by simpa using e1
    have e2' : (xm == 2) = false := by simpa using e2
    have e3' : (xm == 3) = false := by simpa using e3
    have e4' : (xm == 4) = false := by simpa using e4
    clear e1 e2 e3 e4
    have t0 : w0.cell? ⟨w.heap.size + 1, 0, none⟩ = some (.int .i64 0) := BZ.out.cell 0
    have t1 : w0.cell? ⟨w.heap.size + 1, 1, none⟩ = some (.int .i64 0) := BZ.out.cell 1
    have t2 : w0.cell? ⟨w.heap.size + 1, 2, none⟩ = some (.int .i64 0) := BZ.out.cell 2
    have t3 : w0.cell? ⟨w.heap.size + 1, 3, none⟩ = some (.bool false) := BZ.out.cell 3
    have f0 := BZ.out.free 0
    have f1 := BZ.out.free 1
    have f2 := BZ.out.free 2
    have f3 := BZ.out.free 3
    go_enter Tryz.func150, Tryz.ntmps150
    go_wp2_with fail
    rw [← HW0.out]
    go_quiet (fail)
    go_wp2_with fail
    refine bodyPost_ret (results_cell_row (P := Tryz.prog) rfl _ _ (w.heap.size + 1) _ _ _ _ rfl (Blk.put4 (W := w0.drewN nq) BZ.out _ _ _ _) Tryz.underlying168 rfl (by kernel_rfl)) rfl ?_
    exact ⟨rfl, Ch.new4 (C0.out.drewN nq) (by omega) _ _ _ _⟩
end Go.Proofs.YtkplgggdidhnoaaGreatDoor
