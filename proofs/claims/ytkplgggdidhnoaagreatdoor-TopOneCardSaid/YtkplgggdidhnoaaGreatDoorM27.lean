/-
  lock: isState, Set: what they tell and do. Conditions: sizes. lock: Set of whatever states: what it tells and does. Conditions: sizes. crate: what its methods tell and do, whatever the things are. Conditions: sizes.
-/
import Derived.Test.YtkplgggdidhnoaaGreatDoorM26
import Derived.Deep.AppendLies
namespace Go.Proofs.YtkplgggdidhnoaaGreatDoor
open Go.ChangeShapes Go.WideShapes Go.ChangeAt Go.RowKit
set_option linter.unusedVariables false

set_option maxRecDepth 100000 in
set_option maxHeartbeats 4000000 in
theorem isState_any (O : Nat → Prop) (w : World) (b : Nat) (L : Lay) (rs : List RS) (r : Nat) (x : RS) (h : LockAt O w b L rs) (ok : LayOk L) (hr : r < L.routes.length) :
    Calls Tryz.prog 99 #[.pointer (some ⟨b, 0, none⟩), .int .i64 r, .agg #[.int .i64 x.mode, .int .i64 x.timer, .int .i64 x.gone, .bool x.seen]] w fun e w' => ∃ t : Bool, e = .returned (.bool t) ∧ (t = true → RSOk L.routes[r] x) ∧ Ch Noone w w' := by
  have hr1 : r < rs.length := by rw [h.2.1.len]; exact hr
  obtain ⟨q1, q2, q3, b4, o4, c4, g, c5, pa, pc, H⟩ := h.at hr1 hr
  have hpm := (ok.route _ (List.getElem_mem hr)).path.2.2.2
  have hpl := (ok.route _ (List.getElem_mem hr)).path.2.2.1
  have x3 : w.cell? ⟨b, 3, none⟩ = some (.slice (some ⟨b4, o4, none⟩) rs.length c4) := H.blk.cell 3
  have y3 : w.cell? ⟨b4, o4 + r * 6 + 3, none⟩ = some (.slice pa L.routes[r].path.length pc) := H.rc.2.2.2
  have hbl := H.blk.lt
  have hb4 := H.l4
  have k4 := H.k4
  have HRd : RSOk L.routes[r] x = (0 ≤ x.timer ∧ x.timer ≤ 8 ∧ (x.mode = 3 → 0 ≤ x.gone ∧ x.gone < L.routes[r].path.length)) := rfl
  rw [HRd]
  clear h ok H HRd
  generalize L.routes[r].path.length = pl at *
  obtain ⟨xm, xt, xg, xs⟩ := x
  dsimp only at *
  have hr0 : (0 : Int) ≤ r := by omega
  have hr2 : (r : Int) < rs.length := by omega
  have CH : Hid (∀ A A' : Array Value, Ch Noone w ((w.alloc (.cells A 168)).alloc (.cells A' 168))) := fun _ _ => ((Ch.refl _ _).alloc _).alloc _
  have CHd : Hid (∀ (A A' : Array Value) (n : Nat), Ch Noone w (((w.alloc (.cells A 168)).alloc (.cells A' 168)).drewN n)) := fun _ _ _ => (((Ch.refl _ _).alloc _).alloc _).drewN _
  rcases (show xm = 0 ∨ xm = 2 ∨ xm = 1 ∨ xm = 4 ∨ xm = 3 ∨ (xm ≠ 0 ∧ xm ≠ 1 ∧ xm ≠ 2 ∧ xm ≠ 4 ∧ xm ≠ 3) by omega) with e | e | e | e | e | ⟨e0, e1, e2, e4, e3⟩
  · subst e
    go_enter Tryz.func99, Tryz.ntmps99
    go_wp2_with fail
    all_goals
      go_ret
      refine ⟨_, rfl, fun ht => ?_, by first | exact CH.out _ _ | exact CHd.out _ _ _⟩
      first | (exact absurd ht (by decide)) | (refine ⟨?_, ?_, fun h => ?_⟩ <;> first | omega | (refine ⟨?_, ?_⟩ <;> omega))
  · subst e
    go_enter Tryz.func99, Tryz.ntmps99
    go_wp2_with fail
    all_goals
      go_ret
      refine ⟨_, rfl, fun ht => ?_, by first | exact CH.out _ _ | exact CHd.out _ _ _⟩
      first | (exact absurd ht (by decide)) | (refine ⟨?_, ?_, fun h => ?_⟩ <;> first | omega | (refine ⟨?_, ?_⟩ <;> omega))
  · subst e
    by_cases h0 : xt < 0
    · have hmm : min (max xt 0) 8 = 0 := by omega
      have hx : ¬ (xt = 0) := by omega
      have HT := Lib.hid h0
      clear h0
      go_enter Tryz.func99, Tryz.ntmps99
      go_wp2_with fail
      all_goals
        go_ret
        refine ⟨_, rfl, fun ht => ?_, by first | exact CH.out _ _ | exact CHd.out _ _ _⟩
        first | (exact absurd ht (by decide)) | (refine ⟨?_, ?_, fun h => ?_⟩ <;> first | omega | (refine ⟨?_, ?_⟩ <;> omega))
    · by_cases h8 : 8 < xt
      · have hmm : min (max xt 0) 8 = 8 := by omega
        have hx : ¬ (xt = 8) := by omega
        have h0' : 0 ≤ xt := by omega
        clear h0
        go_enter Tryz.func99, Tryz.ntmps99
        go_wp2_with fail
        all_goals
          go_ret
          refine ⟨_, rfl, fun ht => ?_, by first | exact CH.out _ _ | exact CHd.out _ _ _⟩
          first | (exact absurd ht (by decide)) | (refine ⟨?_, ?_, fun h => ?_⟩ <;> first | omega | (refine ⟨?_, ?_⟩ <;> omega))
      · have h0' : 0 ≤ xt := by omega
        have h8' : xt ≤ 8 := by omega
        clear h0 h8
        go_enter Tryz.func99, Tryz.ntmps99
        go_wp2_with fail
        all_goals
          go_ret
          refine ⟨_, rfl, fun ht => ?_, by first | exact CH.out _ _ | exact CHd.out _ _ _⟩
          first | (exact absurd ht (by decide)) | (refine ⟨?_, ?_, fun h => ?_⟩ <;> first | omega | (refine ⟨?_, ?_⟩ <;> omega))
  · subst e
    by_cases h0 : xt < 0
    · have hmm : min (max xt 0) 5 = 0 := by omega
      have hx : ¬ (xt = 0) := by omega
      have HT := Lib.hid h0
      clear h0
      go_enter Tryz.func99, Tryz.ntmps99
      go_wp2_with fail
      all_goals
        go_ret
        refine ⟨_, rfl, fun ht => ?_, by first | exact CH.out _ _ | exact CHd.out _ _ _⟩
        first | (exact absurd ht (by decide)) | (refine ⟨?_, ?_, fun h => ?_⟩ <;> first | omega | (refine ⟨?_, ?_⟩ <;> omega))
    · by_cases h8 : 5 < xt
      · have hmm : min (max xt 0) 5 = 5 := by omega
        have hx : ¬ (xt = 5) := by omega
        have h0' : 0 ≤ xt := by omega
        clear h0
        go_enter Tryz.func99, Tryz.ntmps99
        go_wp2_with fail
        all_goals
          go_ret
          refine ⟨_, rfl, fun ht => ?_, by first | exact CH.out _ _ | exact CHd.out _ _ _⟩
          first | (exact absurd ht (by decide)) | (refine ⟨?_, ?_, fun h => ?_⟩ <;> first | omega | (refine ⟨?_, ?_⟩ <;> omega))
      · have h0' : 0 ≤ xt := by omega
        have h8' : xt ≤ 5 := by omega
        clear h0 h8
        go_enter Tryz.func99, Tryz.ntmps99
        go_wp2_with fail
        all_goals
          go_ret
          refine ⟨_, rfl, fun ht => ?_, by first | exact CH.out _ _ | exact CHd.out _ _ _⟩
          first | (exact absurd ht (by decide)) | (refine ⟨?_, ?_, fun h => ?_⟩ <;> first | omega | (refine ⟨?_, ?_⟩ <;> omega))
  · subst e
    obtain ⟨w0, hw0⟩ : ∃ w0, w0 = (w.alloc (.cells #[.int .i64 3, .int .i64 xt, .int .i64 xg, .bool xs] 168)).alloc (.cells #[.int .i64 3, .int .i64 0, .int .i64 0, .bool false] 168) := ⟨_, rfl⟩
    have c0 : Ch Noone w w0 := by rw [hw0]; exact ((Ch.refl _ _).alloc _).alloc _
    have b5 : Blk w0 w.heap.size 168 #[.int .i64 3, .int .i64 xt, .int .i64 xg, .bool xs] := by rw [hw0]; exact (Blk.new _ _ _).alloc _
    have b7 : Blk w0 (w.heap.size + 1) 168 #[.int .i64 3, .int .i64 0, .int .i64 0, .bool false] := by rw [hw0]; exact Blk.new2 _ _ _ _
    have z3 : w0.cell? ⟨b, 3, none⟩ = some (.slice (some ⟨b4, o4, none⟩) rs.length c4) := (c0.rd hbl _).trans x3
    have z4 : w0.cell? ⟨b4, o4 + r * 6 + 3, none⟩ = some (.slice pa pl pc) := (c0.rd hb4 _).trans y3
    have HS : Hid (∀ W', Ch (fun g => g = w.heap.size + 1) w0 W' → W'.cell? ⟨b, 3, none⟩ = some (.slice (some ⟨b4, o4, none⟩) rs.length c4) ∧ W'.cell? ⟨b4, o4 + r * 6 + 3, none⟩ = some (.slice pa pl pc) ∧ W'.cell? ⟨w.heap.size, 2, none⟩ = some (.int .i64 xg) ∧ W'.cell? ⟨w.heap.size, 3, none⟩ = some (.bool xs)) := fun W' c => by
      have h1 := c.blk b5 (by omega)
      have h2 := c.size
      have h3 := c0.size
      refine ⟨(World.cell?_of_block (w := w0) (a := ⟨b, 3, none⟩) (c.block b (by omega) (by omega))).trans z3, (World.cell?_of_block (w := w0) (a := ⟨b4, o4 + r * 6 + 3, none⟩) (c.block b4 (by omega) (by omega))).trans z4, h1.cell 2, h1.cell 3⟩
    have s0 : w0.cell? ⟨w.heap.size, 0, none⟩ = some (.int .i64 3) := b5.cell 0
    have s1 : w0.cell? ⟨w.heap.size, 1, none⟩ = some (.int .i64 xt) := b5.cell 1
    have s2 : w0.cell? ⟨w.heap.size, 2, none⟩ = some (.int .i64 xg) := b5.cell 2
    have s3 : w0.cell? ⟨w.heap.size, 3, none⟩ = some (.bool xs) := b5.cell 3
    have t0 : w0.cell? ⟨w.heap.size + 1, 0, none⟩ = some (.int .i64 3) := b7.cell 0
    have t1 : w0.cell? ⟨w.heap.size + 1, 1, none⟩ = some (.int .i64 0) := b7.cell 1
    have t2 : w0.cell? ⟨w.heap.size + 1, 2, none⟩ = some (.int .i64 0) := b7.cell 2
    have t3 : w0.cell? ⟨w.heap.size + 1, 3, none⟩ = some (.bool false) := b7.cell 3
    have f2 := b7.free 2
    have f3 := b7.free 3
    have HW0 := Lib.hid hw0
    have C0 := Lib.hid c0
    have B5 := Lib.hid b5
    have B7 := Lib.hid b7
    have hpl0 : (0 : Int) ≤ pl := by omega
    clear hw0 c0 b5 b7 z3 z4 x3 y3
    by_cases h0 : xg < 0
    · have hmm : min (max xg 0) ((pl : Int) - 1) = 0 := by omega
      have hx : ¬ (xg = 0) := by omega
      have HT := Lib.hid h0
      clear h0
      go_enter Tryz.func99, Tryz.ntmps99
      go_wp2_with fail
      rw [← HW0.out]
      go_region_held3 (fun W' => W'.cell? ⟨b, 3, none⟩ = some (.slice (some ⟨b4, o4, none⟩) rs.length c4) ∧ W'.cell? ⟨b4, o4 + r * 6 + 3, none⟩ = some (.slice pa pl pc) ∧ W'.cell? ⟨w.heap.size, 2, none⟩ = some (.int .i64 xg) ∧ W'.cell? ⟨w.heap.size, 3, none⟩ = some (.bool xs))
        (first | exact HS.out _ (Ch.refl _ _).drew | exact HS.out _ ((Ch.refl _ _).drew.set1 _ _) | exact HS.out _ (((Ch.refl _ _).drew.set1 _ _).set1 _ _)) (fail)
      all_goals
        go_wp2_with fail
        all_goals
          go_ret
          refine ⟨_, rfl, fun ht => ?_, ((C0.out.drew).set (fun h => absurd h (by omega)) 2 _).set (fun h => absurd h (by omega)) 3 _⟩
          first | (exact absurd ht (by decide)) | (refine ⟨?_, ?_, fun h => ?_⟩ <;> first | omega | (refine ⟨?_, ?_⟩ <;> omega))
    · by_cases h8 : (pl : Int) - 1 < xg
      · have hmm : min (max xg 0) ((pl : Int) - 1) = (pl : Int) - 1 := by omega
        have hx : ¬ (xg = (pl : Int) - 1) := by omega
        have HT := Lib.hid h8
        clear h0 h8
        go_enter Tryz.func99, Tryz.ntmps99
        go_wp2_with fail
        rw [← HW0.out]
        go_region_held3 (fun W' => W'.cell? ⟨b, 3, none⟩ = some (.slice (some ⟨b4, o4, none⟩) rs.length c4) ∧ W'.cell? ⟨b4, o4 + r * 6 + 3, none⟩ = some (.slice pa pl pc) ∧ W'.cell? ⟨w.heap.size, 2, none⟩ = some (.int .i64 xg) ∧ W'.cell? ⟨w.heap.size, 3, none⟩ = some (.bool xs))
          (first | exact HS.out _ (Ch.refl _ _).drew | exact HS.out _ ((Ch.refl _ _).drew.set1 _ _) | exact HS.out _ (((Ch.refl _ _).drew.set1 _ _).set1 _ _)) (fail)
        all_goals
          go_wp2_with fail
          all_goals
            go_ret
            refine ⟨_, rfl, fun ht => ?_, ((C0.out.drew).set (fun h => absurd h (by omega)) 2 _).set (fun h => absurd h (by omega)) 3 _⟩
            first | (exact absurd ht (by decide)) | (refine ⟨?_, ?_, fun h => ?_⟩ <;> first | omega | (refine ⟨?_, ?_⟩ <;> omega))
      · have h0' : 0 ≤ xg := by omega
        have h8' : xg ≤ (pl : Int) - 1 := by omega
        have hmm : Hid (min (max xg 0) ((pl : Int) - 1) = xg) := by show _ = _; omega
        clear h0 h8
        go_enter Tryz.func99, Tryz.ntmps99
        go_wp2_with fail
        rw [← HW0.out]
        go_region_held3 (fun W' => W'.cell? ⟨b, 3, none⟩ = some (.slice (some ⟨b4, o4, none⟩) rs.length c4) ∧ W'.cell? ⟨b4, o4 + r * 6 + 3, none⟩ = some (.slice pa pl pc) ∧ W'.cell? ⟨w.heap.size, 2, none⟩ = some (.int .i64 xg) ∧ W'.cell? ⟨w.heap.size, 3, none⟩ = some (.bool xs))
          (first | exact HS.out _ (Ch.refl _ _).drew | exact HS.out _ ((Ch.refl _ _).drew.set1 _ _) | exact HS.out _ (((Ch.refl _ _).drew.set1 _ _).set1 _ _)) (fail)
        all_goals
          go_wp2_with fail
          all_goals
            go_ret
            refine ⟨_, rfl, fun ht => ?_, ((C0.out.drew).set (fun h => absurd h (by omega)) 2 _).set (fun h => absurd h (by omega)) 3 _⟩
            first | (exact absurd ht (by decide)) | (refine ⟨?_, ?_, fun h => ?_⟩ <;> first | omega | (refine ⟨?_, ?_⟩ <;> omega))
  · have e0' : (xm == 0) = false := by simpa using e0
    have e1' : (xm == 1) = false := by simpa using e1
    have e2' : (xm == 2) = false := by simpa using e2
    have e3' : (xm == 3) = false := by simpa using e3
    have e4' : (xm == 4) = false := by simpa using e4
    clear e0 e1 e2 e3 e4
    go_enter Tryz.func99, Tryz.ntmps99
    go_wp2_with fail
    all_goals
      go_ret
      refine ⟨_, rfl, fun ht => ?_, by first | exact CH.out _ _ | exact CHd.out _ _ _⟩
      first | (exact absurd ht (by decide)) | (refine ⟨?_, ?_, fun h => ?_⟩ <;> first | omega | (refine ⟨?_, ?_⟩ <;> omega))
end Go.Proofs.YtkplgggdidhnoaaGreatDoor

namespace Go.Proofs.YtkplgggdidhnoaaGreatDoor
open Go.ChangeShapes Go.WideShapes Go.ChangeAt Go.RowKit
set_option linter.unusedVariables false

set_option maxRecDepth 100000 in
set_option maxHeartbeats 4000000 in
theorem lock_set_any (O B : Nat → Prop) (w : World) (b : Nat) (L : Lay) (rs l : List RS) (h : LockAt O w b L rs) (ok : LayOk L) (v : Value) (hv : Sl B w v l.length (l.flatMap fRS)) (hl : l.length ≤ 100) :
    Calls Tryz.prog 61 #[.pointer (some ⟨b, 0, none⟩), v] w fun r w' => ∃ t : Bool, r = .returned (.bool t) ∧ LockAt (Gr O w) w' b L (if t = true then l else rs) ∧ Ch (fun g => g = b) w w' := by
  have HV := Lib.hid hv
  have HK := Lib.hid h
  obtain ⟨hob, ⟨hlen, -⟩, v1, v2, v3, v4, v5, b0, -, ho⟩ := h
  obtain ⟨a5, c5, rfl, -, -, -, -⟩ := ho.sl
  obtain ⟨a, c, rfl, k1, k2, -, -⟩ := hv
  have OK := Lib.hid ok
  have HLen := Lib.hid hlen
  have hr6 : rs.length ≤ 6 := by rw [hlen]; exact ok.r1
  have HC := Lib.hid k2
  clear ho hob hlen ok k2
  have l4 := b0.cell 4
  simp only [List.getElem?_toArray, List.getElem?_cons_zero, List.getElem?_cons_succ] at l4
  have HB0 := Lib.hid b0
  have fal : Hid (∀ W, Ch Noone w W → LockAt (Gr O w) W b L (if false = true then l else rs) ∧ Ch (fun g => g = b) w W) := fun W c => ⟨by rw [if_neg (by decide)]; exact (HK.out.ch0 c).mono fun g hg _ => .inl hg, c.mono fun _ _ h => h.elim⟩
  by_cases hn : l.length = rs.length
  · have HN := Lib.hid hn
    have hn' : ((l.length : Int) != (rs.length : Int)) = false := by simp [hn]
    have hln6 : l.length ≤ 6 := by omega
    rw [← hn] at l4
    clear hn hn'
    go_enter Tryz.func61, Tryz.ntmps61
    go_wp2_with fail
    go_loopw [23] (fun i wr => ∃ k : Nat, k ≤ l.length ∧ i = .int .i64 k ∧ Ch Noone w wr ∧ Hid (∀ (r : Nat) (h1 : r < l.length) (h2 : r < L.routes.length), r < k → RSOk L.routes[r] l[r])) (fun i _ => (l.length - intOf i).toNat)
    case atStart => exact ⟨0, by omega, rfl, Ch.refl _ _, fun r _ _ h => absurd h (by omega)⟩
    case round =>
      obtain ⟨k, hk, rfl, hch, hgood⟩ := hrel
      clear l4
      by_cases hkl : k < l.length
      · have hk2 : k < L.routes.length := by rw [← HLen.out, ← HN.out]; exact hkl
        obtain ⟨b', off, rfl, -, hbw, hat⟩ := HV.out.at (f := fRS) (C := 4) (fun _ => rfl) (by omega) hkl
        have y0 : wr.cell? ⟨b', off + k * 4, none⟩ = some (.int .i64 l[k].mode) := (hch.rd hbw _).trans (hat 0 (by omega))
        have y1 : wr.cell? ⟨b', off + k * 4 + 1, none⟩ = some (.int .i64 l[k].timer) := (hch.rd hbw _).trans (hat 1 (by omega))
        have y2 : wr.cell? ⟨b', off + k * 4 + 2, none⟩ = some (.int .i64 l[k].gone) := (hch.rd hbw _).trans (hat 2 (by omega))
        have y3 : wr.cell? ⟨b', off + k * 4 + 3, none⟩ = some (.bool l[k].seen) := (hch.rd hbw _).trans (hat 3 (by omega))
        clear hat
        have kc : k ≤ c := by omega
        have hk0 : (0 : Int) ≤ k := by omega
        have hkc' : (k : Int) ≤ c := by omega
        have hkl1 : (k : Int) < l.length := by omega
        obtain ⟨w1, hw1⟩ : ∃ w1, w1 = wr.alloc (.cells #[.int .i64 l[k].mode, .int .i64 l[k].timer, .int .i64 l[k].gone, .bool l[k].seen] 168) := ⟨_, rfl⟩
        have c1 : Ch Noone wr w1 := by rw [hw1]; exact (Ch.refl _ _).alloc _
        have bx : Blk w1 wr.heap.size 168 #[.int .i64 l[k].mode, .int .i64 l[k].timer, .int .i64 l[k].gone, .bool l[k].seen] := by rw [hw1]; exact Blk.new _ _ _
        have HW1 := Lib.hid hw1
        have C1 := Lib.hid (hch.trans c1)
        have BX := Lib.hid bx
        have HIs := Lib.hid (isState_any O w1 b L rs k l[k] (HK.out.ch0 C1.out) OK.out hk2)
        have HGd : Hid (RSOk L.routes[k] l[k] → ∀ (r : Nat) (h1 : r < l.length) (h2 : r < L.routes.length), r < k + 1 → RSOk L.routes[r] l[r]) := fun hx r h1 h2 hr => by
          by_cases e : r = k
          · subst e; exact hx
          · exact hgood.out r h1 h2 (by omega)
        clear hw1 c1 bx hch hgood
        go_wp2_with fail
        rw [← HW1.out]
        refine HIs.out.mono ?_
        rintro e w2 ⟨t, rfl, ht, c2⟩
        cases t
        · have HF := Lib.hid (fal.out w2 (C1.out.trans c2))
          go_wp2_with fail
          go_ret
          exact ⟨false, rfl, HF.out⟩
        · have HG := Lib.hid (HGd.out (ht rfl))
          have C2 := Lib.hid (C1.out.trans c2)
          have BX2 := Lib.hid (c2.blk BX.out (fun h => h))
          clear ht y0 y1 y2 y3 HGd BX c2
          go_wp2_with fail
          go_loopw [37] (fun i wq => ∃ s : Nat, s ≤ k ∧ i = .int .i64 s ∧ Ch Noone w2 wq) (fun i _ => (k - intOf i).toNat)
          case atStart => exact ⟨0, by omega, rfl, Ch.refl _ _⟩
          case round =>
            obtain ⟨s, hs, rfl, hch⟩ := hrel
            have CR := Lib.hid (C2.out.trans hch)
            by_cases hsk : s < k
            · have hsl : s < l.length := by omega
              have hs2 : s < L.routes.length := by omega
              obtain ⟨b2, off2, e2, -, hbw2, hat⟩ := HV.out.at (f := fRS) (C := 4) (fun _ => rfl) (by omega) hsl
              simp only [Option.some.injEq, Addr.mk.injEq, and_true] at e2
              obtain ⟨rfl, rfl⟩ := e2
              have y0 : wr.cell? ⟨b', off + s * 4, none⟩ = some (.int .i64 l[s].mode) := (CR.out.rd hbw _).trans (hat 0 (by omega))
              have y1 : wr.cell? ⟨b', off + s * 4 + 1, none⟩ = some (.int .i64 l[s].timer) := (CR.out.rd hbw _).trans (hat 1 (by omega))
              have y2 : wr.cell? ⟨b', off + s * 4 + 2, none⟩ = some (.int .i64 l[s].gone) := (CR.out.rd hbw _).trans (hat 2 (by omega))
              have y3 : wr.cell? ⟨b', off + s * 4 + 3, none⟩ = some (.bool l[s].seen) := (CR.out.rd hbw _).trans (hat 3 (by omega))
              have bxr := hch.blk BX2.out (fun h => h)
              have x0 := bxr.cell 0
              simp only [List.getElem?_toArray, List.getElem?_cons_zero] at x0
              have xl := bxr.lt
              have bkr := CR.out.blk HB0.out (fun h => h)
              have z0 : wr.cell? ⟨b, 0, none⟩ = some v1 := bkr.cell 0
              have z1 : wr.cell? ⟨b, 1, none⟩ = some v2 := bkr.cell 1
              have z2 : wr.cell? ⟨b, 2, none⟩ = some v3 := bkr.cell 2
              have z3 : wr.cell? ⟨b, 3, none⟩ = some v4 := bkr.cell 3
              have zl := bkr.lt
              have hs0 : (0 : Int) ≤ s := by omega
              have hs3 : (s : Int) < l.length := by omega
              have hs4 : (s : Int) < k := by omega
              have hLy : LayAt O wr (.agg #[v1, v2, v3, v4]) L := by
                obtain ⟨_, _, u1, u2, u3, u4, u5, e0, hL, _⟩ := HK.out
                cases (Option.some.inj (e0.symm.trans HB0.out) : Obj.cells _ _ _ = Obj.cells _ _ _)
                exact (hL.mono fun g hg _ => hg.1).ch0 CR.out
              obtain ⟨w3, hw3⟩ : ∃ w3, w3 = wr.alloc (.cells #[.int .i64 l[s].mode, .int .i64 l[s].timer, .int .i64 l[s].gone, .bool l[s].seen] 168) := ⟨_, rfl⟩
              have c3 : Ch Noone wr w3 := by rw [hw3]; exact (Ch.refl _ _).alloc _
              have HW3 := Lib.hid hw3
              have C3 := Lib.hid (hch.trans c3)
              have HCf := Lib.hid (conflict_any O w3 _ L k s (hLy.ch0 c3) OK.out hk2 hs2)
              clear hat bxr bkr hLy hw3 c3 hch
              generalize l[s] = y at *
              obtain ⟨ym, yt, yg, ys⟩ := y
              generalize hxk : l[k].mode = xm at *
              clear hxk
              dsimp only at *
              by_cases hx : xm = 0
              · have hx' : (xm != 0) = false := by simpa using hx
                clear hx
                go_wp2_with fail
                rw [← HW3.out]
                go_roundw
                case rel => exact ⟨s + 1, by omega, by go_num, C3.out⟩
                case measure => simp [intOf]; omega
              · have hx' : (xm != 0) = true := by simpa using hx
                clear hx
                by_cases hy : ym = 0
                · have hy' : (ym != 0) = false := by simpa using hy
                  clear hy
                  go_wp2_with fail
                  rw [← HW3.out]
                  go_roundw
                  case rel => exact ⟨s + 1, by omega, by go_num, C3.out⟩
                  case measure => simp [intOf]; omega
                · have hy' : (ym != 0) = true := by simpa using hy
                  clear hy
                  go_wp2_with fail
                  rw [← HW3.out]
                  refine HCf.out.mono ?_
                  rintro e w4 ⟨t, rfl, c4⟩
                  cases t
                  · go_wp2_with fail
                    go_roundw
                    case rel => exact ⟨s + 1, by omega, by go_num, C3.out.trans c4⟩
                    case measure => simp [intOf]; omega
                  · have HF := Lib.hid (fal.out w4 ((C2.out.trans C3.out).trans c4))
                    go_wp2_with fail
                    go_ret
                    exact ⟨false, rfl, HF.out⟩
            · go_wp2_with fail
              go_roundw
              case rel => exact ⟨k + 1, by omega, by go_num, CR.out, HG.out⟩
              case measure => simp [intOf]; omega
      · have HLo : Hid (RsOk L l) := ⟨HN.out.trans HLen.out, fun r h1 h2 => hgood.out r h1 h2 (by omega)⟩
        go_wp2_with fail
        refine (clone_rs B wr _ l.length (l.flatMap fRS) (HV.out.ch0 hch) (by rw [flat_length fRS 4 (fun _ => rfl)]) (rs_one _) (by omega)).mono ?_
        rintro e w1 ⟨v', rfl, h1, c1⟩
        have H1 := Lib.hid h1
        obtain ⟨a', c', rfl, -, -, -, -⟩ := h1.sl
        clear h1
        have hch1 := hch.trans c1
        have b1 := hch1.blk HB0.out (fun h => h)
        have f4 := b1.free 4
        have l4 := b1.cell 4
        simp only [List.getElem?_toArray, List.getElem?_cons_zero, List.getElem?_cons_succ] at l4
        go_wp2_with fail
        go_ret
        have hw := HK.out
        obtain ⟨hOb, _, u1, u2, u3, u4, u5, c0, d0, e0⟩ := hw
        have hlt := c0.lt
        cases (Option.some.inj (c0.symm.trans HB0.out) : Obj.cells _ _ _ = Obj.cells _ _ _)
        have hsz := hch.size
        have hob : (Value.slice a' l.length c').ownBlock = none ∨ ∃ g, (Value.slice a' l.length c').ownBlock = some g ∧ w.heap.size ≤ g := by
          rcases H1.out.2 with ⟨e, _⟩ | ⟨g, cap, cur, e, hg, _⟩
          · rw [e]; exact .inl rfl
          · rw [e]; exact .inr ⟨g, rfl, Nat.le_trans hsz hg⟩
        have D0 := ((d0.mono (B' := fun g => Gr O w g ∧ g ≠ b ∧ (Value.slice a' l.length c').ownBlock ≠ some g) fun g hg hl => ⟨Or.inl hg.1, hg.2.1, by
          rcases hob with h | ⟨g', h, h'⟩
          · rw [h]; simp
          · rw [h]; intro e; simp only [Option.some.injEq] at e; omega⟩).ch0 hch1).ch (S := fun g => g = b) ((Ch.refl _ _).set1 4 (.slice a' l.length c')) (fun g hg _ e => hg.2.1 e)
        have E0 := (H1.out.mono (O' := fun g => Gr O w g ∧ g ≠ b) fun g hg hl => ⟨Or.inr (Nat.le_trans hsz hg), fun e => by have : _ ≤ g := hg; omega⟩).ch (S := fun g => g = b) ((Ch.refl _ _).set1 4 (.slice a' l.length c')) (fun g hg _ e => hg.2 e)
        have F0 := b1.set 4 (.slice a' l.length c')
        refine ⟨true, rfl, ?_, (hch1.mono fun _ _ h => h.elim).set1 4 _⟩
        rw [if_pos rfl]
        exact ⟨.inl hOb, HLo.out, _, _, _, _, _, by simpa using F0, D0, E0⟩
  · have hn' : ((l.length : Int) != (rs.length : Int)) = true := by simp; omega
    have HF := Lib.hid (fal.out w (Ch.refl _ _))
    have hnn : ¬ ((l.length : Int) = rs.length) := by omega
    clear hn
    go_enter Tryz.func61, Tryz.ntmps61
    go_wp2_with fail
    go_ret
    exact ⟨false, rfl, HF.out⟩
end Go.Proofs.YtkplgggdidhnoaaGreatDoor

namespace Go.Proofs.YtkplgggdidhnoaaGreatDoor
open Go.ChangeShapes Go.WideShapes Go.ChangeAt Go.RowKit
set_option linter.unusedVariables false

/-- A thing of a Crate. -/
inductive Item where
  | num (n : Int)
  | txt (s : ByteArray)
  | tru (b : Bool)
def Item.val : Item → Value
  | .num n => .iface 3 (.int .i64 n)
  | .txt s => .iface 9 (.string s)
  | .tru b => .iface 4 (.bool b)
def Item.Ok : Item → Prop
  | .txt s => s.size ≤ 300
  | _ => True
def fItem (x : Item) : List Value := [x.val]
theorem one_fItem (x : Item) : ∀ u ∈ fItem x, u.oneCell' = true := by
  intro u hu
  simp only [fItem, List.mem_cons, List.not_mem_nil, or_false] at hu
  subst hu
  cases x <;> rfl
/-- A Crate at block b; its blocks are of O. -/
def CrateAt (O : Nat → Prop) (w : World) (b : Nat) (xs : List Item) : Prop :=
  xs.length ≤ 100 ∧ (∀ x ∈ xs, x.Ok) ∧ O b ∧ ∃ v, Blk w b 178 #[v] ∧ Own (fun g => O g ∧ g ≠ b) w 20 1 v xs.length (xs.flatMap fItem)
theorem CrateAt.ch {O S : Nat → Prop} {w w' : World} {b : Nat} {xs : List Item} (h : CrateAt O w b xs) (c : Ch S w w') (hs : ∀ g, O g → g < w.heap.size → ¬ S g) : CrateAt O w' b xs := by
  obtain ⟨h1, h2, h0, v, h3, h4⟩ := h
  exact ⟨h1, h2, h0, v, c.blk h3 (hs b h0 h3.lt), h4.ch c fun g hg => hs g hg.1⟩
theorem CrateAt.ch0 {O : Nat → Prop} {w w' : World} {b : Nat} {xs : List Item} (h : CrateAt O w b xs) (c : Ch Noone w w') : CrateAt O w' b xs := h.ch c fun _ _ _ h => h
theorem CrateAt.mono {O O' : Nat → Prop} {w : World} {b : Nat} {xs : List Item} (h : CrateAt O w b xs) (ho : ∀ g, O g → g < w.heap.size → O' g) : CrateAt O' w b xs := by
  obtain ⟨h1, h2, h0, v, h3, h4⟩ := h
  exact ⟨h1, h2, ho b h0 h3.lt, v, h3, h4.mono fun g hg hl => ⟨ho g hg.1 hl, hg.2⟩⟩
theorem CrateAt.lt {O : Nat → Prop} {w : World} {b : Nat} {xs : List Item} (h : CrateAt O w b xs) : b < w.heap.size := by
  obtain ⟨_, _, _, v, h3, _⟩ := h
  exact h3.lt

section
variable {P : Program}
theorem wpList_append_lies (w : World) {ops : Array Oper} {rest : List Oper} {o : Oper} {a : Act} {Q : Exit → Act → World → Prop} (hgd : o.guard = none) (s x : Operand) (t : TypeId)
    (ho : o.op = .call { callee := .builtin .append, args := #[s, x], argTypes := #[t, t] })
    (base : Nat) (e : TypeId) (i : TypeInfo) (z : Value) (size bytes : Nat) (ht : P.underlying t = some (.slice e)) (hi : P.info? e = some i) (hz : i.zero = some z)
    (hsize : i.size = size) (hby : i.bytes = bytes) (hzs : z.cells.size = size) (hsz : 0 < size)
    (v : Value) (n : Nat) (xs : List Value) (hs : a.eval s = v) (hown : w.ownsRow base e size v n xs)
    (ad : Addr) (m c : Nat) (news : List Value) (hx : a.eval x = .slice (some ad) m c) (hl : news.length = m * size) (hnews : ∀ j u, news[j]? = some u → w.cell? (ad.add j) = some u) (h1 : ∀ u ∈ news, u.oneCell' = true)
    (hm : 0 < m) (h63 : n + m ≤ maxLen) (hbytes : (n + m) * bytes ≤ 140737488355328) (hbase : base ≤ w.heap.size) (H : Nat) (hH : w.heap.size = H)
    (h : ∀ g cap w', w'.ownsRow base e size (.slice (some ⟨g, 0, none⟩) (n + m) cap) (n + m) (xs ++ news) → w.grownBy w' v.ownBlock → (v.ownBlock = some g ∨ g = H) → g < w'.heap.size → wpList P ops Q rest (a.put o.dst (.slice (some ⟨g, 0, none⟩) (n + m) cap)) w') : wpList P ops Q (o :: rest) a w :=
  wpList_plain hgd fun K hK => wp_append_lies w s x t ho base e i z size bytes ht hi hz hsize hby hzs hsz v n xs hs hown ad m c news hx hl hnews h1 hm h63 hbytes hbase H hH fun g cap w' a1 a2 a3 a4 => hK _ _ (h g cap w' a1 a2 a3 a4)
end
theorem Ch.ownB {e C n : Nat} {O : Nat → Prop} {w0 w w' : World} {v : Value} {xs : List Value} (h : Own O w0 e C v n xs) (g : w.grownBy w' v.ownBlock) : Ch (fun k => O k ∧ k < w0.heap.size) w w' :=
  ⟨g.os, g.tape, g.output, g.size, fun k hk hn => g.block k hk fun e => hn (h.blkOf k e.symm)⟩
theorem Own.at0 {O : Nat → Prop} {w : World} {e C : Nat} {v : Value} {n : Nat} {xs : List Value} (h : Own O w e C v n xs) : Own (New 0) w e C v n xs := h.mono fun g _ _ => Nat.zero_le g
theorem Own.ofB {O O' : Nat → Prop} {w : World} {e C : Nat} {n g cap : Nat} {xs : List Value} (h : Own O w e C (.slice (some ⟨g, 0, none⟩) n cap) n xs) (hg : O' g) : Own O' w e C (.slice (some ⟨g, 0, none⟩) n cap) n xs := by
  obtain ⟨h1, h2⟩ := h
  refine ⟨h1, ?_⟩
  rcases h2 with ⟨h2, _⟩ | ⟨g', cap', cur, h2, h3, r⟩
  · cases h2
  · simp only [Value.slice.injEq, Option.some.injEq, Addr.mk.injEq, and_true, true_and] at h2
    obtain ⟨rfl, rfl⟩ := h2
    exact .inr ⟨g, cap, cur, rfl, hg, r⟩

theorem crate_new (w : World) : Calls Tryz.prog 89 #[] w fun e w' => e = .returned (.pointer (some ⟨w.heap.size, 0, none⟩)) ∧ CrateAt (fun g => g = w.heap.size) w' w.heap.size [] ∧ Ch Noone w w' := by
  go_enter Tryz.func89, Tryz.ntmps89
  go_wp2_with fail
  go_ret
  exact ⟨rfl, ⟨by simp, by simp, rfl, _, Blk.new _ _ _, rfl, .inl ⟨rfl, rfl⟩⟩, (Ch.refl _ _).alloc _⟩

theorem info_any : (Tryz.prog.info? 20).map (fun i => (i.zero, i.size, i.bytes)) = some (some .nilIface, 1, 16) := by kernel_rfl

set_option maxRecDepth 100000 in
set_option maxHeartbeats 2000000 in
theorem crate_add (O : Nat → Prop) (w : World) (b : Nat) (xs : List Item) (x : Item) (h : CrateAt O w b xs) (hx : x.Ok) :
    Calls Tryz.prog 138 #[.pointer (some ⟨b, 0, none⟩), x.val] w fun e w' => ∃ (t : Bool) (ys : List Item), e = .returned (.bool t) ∧ CrateAt (Gr O w) w' b ys ∧ Ch O w w' := by
  have HK := Lib.hid h
  obtain ⟨h1, h2, h0, v, h3, h4⟩ := h
  have H0 := Lib.hid h0
  have l0 : w.cell? ⟨b, 0, none⟩ = some v := h3.cell 0
  have hbl := h3.lt
  have HB := Lib.hid h3
  have HO := Lib.hid h4
  have HX := Lib.hid hx
  have H2 := Lib.hid h2
  obtain ⟨a, c, rfl, -, -, -, -⟩ := h4.sl
  obtain ⟨i0, hi0, hz0, hz1, hz2⟩ := info_parts info_any
  clear h3 h4 h2 hx h0
  by_cases hn : xs.length < 100
  · obtain ⟨u, hu⟩ : ∃ u, u = x.val := ⟨_, rfl⟩
    have hu1 : u.oneCell' = true := by rw [hu]; exact one_fItem x _ (by simp [fItem])
    rw [← hu]
    have HU := Lib.hid hu
    clear hu
    have hu2 : ∃ T y, u = .iface T y := by rw [HU.out]; cases x <;> exact ⟨_, _, rfl⟩
    obtain ⟨T, y, rfl⟩ := hu2
    go_enter Tryz.func138, Tryz.ntmps138
    go_wp2_with (at_builtin; refine And.right (a := True) ?_)
    refine ⟨trivial, ?_⟩
    refine wpList_append_lies _ rfl _ _ 176 rfl 0 20 i0 _ 1 16 Tryz.underlying176 hi0 hz0 hz1 hz2 rfl (by decide) _ xs.length (xs.flatMap fItem) (by exact rfl) (by exact (HO.out.at0.ch (S := Noone) ((Ch.refl Noone w).alloc _) (fun _ _ _ h => h)).row) _ 1 1 [.iface T y] (by exact rfl) rfl (by exact fresh_at _ _ (by simp) _ [.iface T y]) (by intro v hv; simp at hv; subst hv; exact hu1) (by omega) (by unfold maxLen; omega) (by omega) (Nat.zero_le _) (w.heap.size + 1) (by simp) ?_
    intro g c' w2 hown hgrow hwho hglt
    have cc := Ch.ownB (w := w.alloc (.cells #[.iface T y] 20)) HO.out hgrow
    have hgO : Gr O w g ∧ g ≠ b := by
      rcases hwho with e | e
      · have h := HO.out.blkOf g e
        exact ⟨.inl h.1.1, h.1.2⟩
      · exact ⟨.inr (by omega), by omega⟩
    have ho := (Own.of hown).ofB (O' := fun g => Gr O w g ∧ g ≠ b) hgO
    have hb2 := cc.blk (HB.out.alloc (.cells #[.iface T y] 20)) (fun h => h.1.2 rfl)
    have f0 := hb2.free 0
    have l0 : w2.cell? ⟨b, 0, none⟩ = some (.slice a xs.length c) := hb2.cell 0
    have HB2 := Lib.hid hb2
    have HOw := Lib.hid ho
    have CW : Hid (Ch O w w2) := ((Ch.refl _ _).alloc _).then cc fun i _ h => h.1.1
    clear hb2 ho hown hgrow cc hgO hwho hglt
    go_wp2_with fail
    go_ret
    have cx : Ch (fun g => g = b) w2 (w2.setCell ⟨b, 0, none⟩ (.slice (some ⟨g, 0, none⟩) (xs.length + 1) c')) := (Ch.refl _ _).set1 _ _
    refine ⟨true, xs ++ [x], rfl, ⟨by simp; omega, fun z hz => ?_, .inl H0.out, _, by have := HB2.out.set 0 (.slice (some ⟨g, 0, none⟩) (xs.length + 1) c'); simpa using this, ?_⟩, CW.out.trans (cx.mono fun k _ e => e ▸ H0.out)⟩
    · rcases List.mem_append.1 hz with hz | hz
      · exact H2.out z hz
      · simp at hz; subst hz; exact HX.out
    · have h := HOw.out.ch cx fun k hk _ e => hk.2 e
      rw [List.length_append, List.flatMap_append]
      simp only [List.length_cons, List.length_nil, List.flatMap_cons, List.flatMap_nil, List.append_nil, Nat.zero_add, fItem]
      rw [← HU.out]
      exact h
  · have hn' : (xs.length : Int) ≥ 100 := by omega
    clear hn
    go_enter Tryz.func138, Tryz.ntmps138
    go_wp2_with fail
    go_ret
    exact ⟨false, xs, rfl, HK.out.mono fun g hg _ => .inl hg, Ch.refl _ _⟩

theorem crate_addInt (O : Nat → Prop) (w : World) (b : Nat) (xs : List Item) (n : Int) (h : CrateAt O w b xs) :
    Calls Tryz.prog 114 #[.pointer (some ⟨b, 0, none⟩), .int .i64 n] w fun e w' => ∃ (t : Bool) (ys : List Item), e = .returned (.bool t) ∧ CrateAt (Gr O w) w' b ys ∧ Ch O w w' := by
  have HA := Lib.hid (crate_add O w b xs (.num n) h trivial)
  dsimp only [Item.val] at HA
  clear h
  go_enter Tryz.func114, Tryz.ntmps114
  go_wp2_with fail
  refine HA.out.mono ?_
  rintro e w1 ⟨t, ys, rfl, hk, c⟩
  have HK := Lib.hid hk
  clear hk
  go_wp2_with fail
  go_ret
  exact ⟨t, ys, rfl, HK.out, c⟩
theorem crate_addText (O : Nat → Prop) (w : World) (b : Nat) (xs : List Item) (s : ByteArray) (h : CrateAt O w b xs) (hs : s.size ≤ 300) :
    Calls Tryz.prog 115 #[.pointer (some ⟨b, 0, none⟩), .string s] w fun e w' => ∃ (t : Bool) (ys : List Item), e = .returned (.bool t) ∧ CrateAt (Gr O w) w' b ys ∧ Ch O w w' := by
  have HA := Lib.hid (crate_add O w b xs (.txt s) h hs)
  dsimp only [Item.val] at HA
  clear h
  go_enter Tryz.func115, Tryz.ntmps115
  go_wp2_with fail
  refine HA.out.mono ?_
  rintro e w1 ⟨t, ys, rfl, hk, c⟩
  have HK := Lib.hid hk
  clear hk
  go_wp2_with fail
  go_ret
  exact ⟨t, ys, rfl, HK.out, c⟩
theorem crate_addBool (O : Nat → Prop) (w : World) (b : Nat) (xs : List Item) (v : Bool) (h : CrateAt O w b xs) :
    Calls Tryz.prog 116 #[.pointer (some ⟨b, 0, none⟩), .bool v] w fun e w' => ∃ (t : Bool) (ys : List Item), e = .returned (.bool t) ∧ CrateAt (Gr O w) w' b ys ∧ Ch O w w' := by
  have HA := Lib.hid (crate_add O w b xs (.tru v) h trivial)
  dsimp only [Item.val] at HA
  clear h
  go_enter Tryz.func116, Tryz.ntmps116
  go_wp2_with fail
  refine HA.out.mono ?_
  rintro e w1 ⟨t, ys, rfl, hk, c⟩
  have HK := Lib.hid hk
  clear hk
  go_wp2_with fail
  go_ret
  exact ⟨t, ys, rfl, HK.out, c⟩

theorem crate_all (w : World) (b : Nat) (v : Value) (h : w.cell? ⟨b, 0, none⟩ = some v) : Calls Tryz.prog 120 #[.pointer (some ⟨b, 0, none⟩)] w fun e w' => e = .returned v ∧ w' = w := by
  go_enter Tryz.func120, Tryz.ntmps120
  go_wp2_with fail
  go_ret
  exact ⟨rfl, rfl⟩
theorem crate_len (O : Nat → Prop) (w : World) (b : Nat) (xs : List Item) (h : CrateAt O w b xs) : Calls Tryz.prog 94 #[.pointer (some ⟨b, 0, none⟩)] w fun e w' => e = .returned (.int .i64 xs.length) ∧ w' = w := by
  obtain ⟨-, -, -, v, h3, h4⟩ := h
  obtain ⟨a, c, rfl, -, -, -, -⟩ := h4.sl
  have HA := Lib.hid (crate_all w b _ (h3.cell 0))
  clear h3 h4
  go_enter Tryz.func94, Tryz.ntmps94
  go_wp2_with fail
  refine HA.out.mono ?_
  rintro e w1 ⟨rfl, rfl⟩
  go_wp2_with fail
  go_ret
  exact ⟨rfl, rfl⟩
theorem crate_at (O : Nat → Prop) (w : World) (b : Nat) (xs : List Item) (i : Int) (h : CrateAt O w b xs) : Calls Tryz.prog 121 #[.pointer (some ⟨b, 0, none⟩), .int .i64 i] w fun e w' => ∃ v, e = .returned v ∧ (v = .nilIface ∨ ∃ x : Item, x.Ok ∧ v = x.val) ∧ w' = w := by
  obtain ⟨h1, h2, -, v, h3, h4⟩ := h
  have H4 := Lib.hid h4.sl
  obtain ⟨a, c, rfl, -, -, -, -⟩ := h4.sl
  have HA := Lib.hid (crate_all w b _ (h3.cell 0))
  have H2 := Lib.hid h2
  clear h3 h4 h2
  by_cases h0 : 0 ≤ i
  · obtain ⟨k, rfl⟩ : ∃ k : Nat, i = k := ⟨i.toNat, by omega⟩
    by_cases hk : k < xs.length
    · obtain ⟨b1, o1, rfl, -, -, hat⟩ := H4.out.at (f := fItem) (C := 1) (fun _ => rfl) (by omega) hk
      have y := hat 0 (by omega)
      rw [Nat.mul_one] at y
      have y0 : w.cell? ⟨b1, o1 + k, none⟩ = some xs[k].val := y
      have hk1 : (k : Int) < xs.length := by omega
      have HOk := Lib.hid (H2.out _ (List.getElem_mem hk))
      clear hat y
      generalize xs[k] = x at *
      go_enter Tryz.func121, Tryz.ntmps121
      go_wp2_with fail
      refine HA.out.mono ?_
      rintro e w1 ⟨rfl, rfl⟩
      go_wp2_with fail
      go_ret
      exact ⟨_, rfl, .inr ⟨x, HOk.out, rfl⟩, rfl⟩
    · have hk1 : (xs.length : Int) ≤ k := by omega
      clear hk
      go_enter Tryz.func121, Tryz.ntmps121
      go_wp2_with fail
      refine HA.out.mono ?_
      rintro e w1 ⟨rfl, rfl⟩
      go_wp2_with fail
      go_ret
      exact ⟨_, rfl, .inl rfl, rfl⟩
  · have h0' : i < 0 := by omega
    clear h0
    go_enter Tryz.func121, Tryz.ntmps121
    go_wp2_with fail
    refine HA.out.mono ?_
    rintro e w1 ⟨rfl, rfl⟩
    go_wp2_with fail
    go_ret
    exact ⟨_, rfl, .inl rfl, rfl⟩
theorem ta_int_nil (w : World) : (Instr.typeAssert (.nilIface) 20 3 true).run Tryz.prog w = .ok (.tuple #[.int .i64 0, .bool false]) w := by kernel_rfl
theorem ta_int_num (n : Int) (w : World) : (Instr.typeAssert (.iface 3 (.int .i64 n)) 20 3 true).run Tryz.prog w = .ok (.tuple #[.int .i64 n, .bool true]) w := by kernel_rfl
theorem ta_int_txt (s : ByteArray) (w : World) : (Instr.typeAssert (.iface 9 (.string s)) 20 3 true).run Tryz.prog w = .ok (.tuple #[.int .i64 0, .bool false]) w := by kernel_rfl
theorem ta_int_tru (b : Bool) (w : World) : (Instr.typeAssert (.iface 4 (.bool b)) 20 3 true).run Tryz.prog w = .ok (.tuple #[.int .i64 0, .bool false]) w := by kernel_rfl
theorem ta_string_nil (w : World) : (Instr.typeAssert (.nilIface) 20 9 true).run Tryz.prog w = .ok (.tuple #[.string ByteArray.empty, .bool false]) w := by kernel_rfl
theorem ta_string_num (n : Int) (w : World) : (Instr.typeAssert (.iface 3 (.int .i64 n)) 20 9 true).run Tryz.prog w = .ok (.tuple #[.string ByteArray.empty, .bool false]) w := by kernel_rfl
theorem ta_string_txt (s : ByteArray) (w : World) : (Instr.typeAssert (.iface 9 (.string s)) 20 9 true).run Tryz.prog w = .ok (.tuple #[.string s, .bool true]) w := by kernel_rfl
theorem ta_string_tru (b : Bool) (w : World) : (Instr.typeAssert (.iface 4 (.bool b)) 20 9 true).run Tryz.prog w = .ok (.tuple #[.string ByteArray.empty, .bool false]) w := by kernel_rfl
theorem ta_bool_nil (w : World) : (Instr.typeAssert (.nilIface) 20 4 true).run Tryz.prog w = .ok (.tuple #[.bool false, .bool false]) w := by kernel_rfl
theorem ta_bool_num (n : Int) (w : World) : (Instr.typeAssert (.iface 3 (.int .i64 n)) 20 4 true).run Tryz.prog w = .ok (.tuple #[.bool false, .bool false]) w := by kernel_rfl
theorem ta_bool_txt (s : ByteArray) (w : World) : (Instr.typeAssert (.iface 9 (.string s)) 20 4 true).run Tryz.prog w = .ok (.tuple #[.bool false, .bool false]) w := by kernel_rfl
theorem ta_bool_tru (b : Bool) (w : World) : (Instr.typeAssert (.iface 4 (.bool b)) 20 4 true).run Tryz.prog w = .ok (.tuple #[.bool b, .bool true]) w := by kernel_rfl
set_option maxRecDepth 100000 in
theorem crate_int (O : Nat → Prop) (w : World) (b : Nat) (xs : List Item) (i : Int) (h : CrateAt O w b xs) : Calls Tryz.prog 95 #[.pointer (some ⟨b, 0, none⟩), .int .i64 i] w fun e w' => (∃ (n : Int) (t : Bool), e = .returned (.tuple #[.int .i64 n, .bool t])) ∧ w' = w := by
  have HA := Lib.hid (crate_at O w b xs i h)
  clear h
  have t0 := ta_int_nil
  have t1 := ta_int_num
  have t2 := ta_int_txt
  have t3 := ta_int_tru
  go_enter Tryz.func95, Tryz.ntmps95
  go_wp2_with fail
  refine HA.out.mono ?_
  rintro e w1 ⟨v, rfl, hv, rfl⟩
  rcases hv with rfl | ⟨x, -, rfl⟩
  · go_wp2_with fail
    go_ret2
    exact ⟨⟨_, _, rfl⟩, rfl⟩
  · cases x
    all_goals
      dsimp only [Item.val]
      go_wp2_with fail
      go_ret2
      exact ⟨⟨_, _, rfl⟩, rfl⟩
set_option maxRecDepth 100000 in
theorem crate_text (O : Nat → Prop) (w : World) (b : Nat) (xs : List Item) (i : Int) (h : CrateAt O w b xs) : Calls Tryz.prog 96 #[.pointer (some ⟨b, 0, none⟩), .int .i64 i] w fun e w' => (∃ (s : ByteArray) (t : Bool), e = .returned (.tuple #[.string s, .bool t]) ∧ s.size ≤ 300) ∧ w' = w := by
  have HA := Lib.hid (crate_at O w b xs i h)
  clear h
  have t0 := ta_string_nil
  have t1 := ta_string_num
  have t2 := ta_string_txt
  have t3 := ta_string_tru
  go_enter Tryz.func96, Tryz.ntmps96
  go_wp2_with fail
  refine HA.out.mono ?_
  rintro e w1 ⟨v, rfl, hv, rfl⟩
  rcases hv with rfl | ⟨x, hx, rfl⟩
  · go_wp2_with fail
    go_ret2
    exact ⟨⟨_, _, rfl, by decide⟩, rfl⟩
  · cases x
    all_goals
      dsimp only [Item.val]
      have HX := Lib.hid hx
      clear hx
      go_wp2_with fail
      go_ret2
      exact ⟨⟨_, _, rfl, by first | decide | exact HX.out⟩, rfl⟩
set_option maxRecDepth 100000 in
theorem crate_bool (O : Nat → Prop) (w : World) (b : Nat) (xs : List Item) (i : Int) (h : CrateAt O w b xs) : Calls Tryz.prog 139 #[.pointer (some ⟨b, 0, none⟩), .int .i64 i] w fun e w' => (∃ (n : Bool) (t : Bool), e = .returned (.tuple #[.bool n, .bool t])) ∧ w' = w := by
  have HA := Lib.hid (crate_at O w b xs i h)
  clear h
  have t0 := ta_bool_nil
  have t1 := ta_bool_num
  have t2 := ta_bool_txt
  have t3 := ta_bool_tru
  go_enter Tryz.func139, Tryz.ntmps139
  go_wp2_with fail
  refine HA.out.mono ?_
  rintro e w1 ⟨v, rfl, hv, rfl⟩
  rcases hv with rfl | ⟨x, -, rfl⟩
  · go_wp2_with fail
    go_ret2
    exact ⟨⟨_, _, rfl⟩, rfl⟩
  · cases x
    all_goals
      dsimp only [Item.val]
      go_wp2_with fail
      go_ret2
      exact ⟨⟨_, _, rfl⟩, rfl⟩
end Go.Proofs.YtkplgggdidhnoaaGreatDoor
