/-
  slices.Contains at api.Need, exactly; table.Conflict. Condition: sizes. lock: position, lies, allLie, isOccupied, MayIn: what they tell. Conditions: sizes; what is read is there. lock: held, Holder: what they tell. Conditions: sizes.
-/
import Derived.Test.YtkplgggdidhnoaaGreatDoorM10
import Derived.Test.YtkplgggdidhnoaaGreatDoorM33
import Derived.Test.YtkplgggdidhnoaaGreatDoorM04
import Derived.Test.YtkplgggdidhnoaaGreatDoorM13
namespace Go.Proofs.YtkplgggdidhnoaaGreatDoor
open Go.ChangeShapes Go.WideShapes Go.ChangeAt Go.RowKit
set_option linter.unusedVariables false

def sameNeed (x y : Need) : Bool := x.pt == y.pt && x.rev == y.rev

set_option maxHeartbeats 1000000 in
theorem slindex_needX (B : Nat → Prop) (w : World) (v : Value) (xs : List Need) (x : Need) (h : Sl B w v xs.length (xs.flatMap fNeed)) (hn : xs.length ≤ 9223372036854775807) :
    Calls Tryz.prog 146 #[v, .agg #[.int .i64 x.pt, .bool x.rev]] w fun r w' => ∃ n : Int, r = .returned (.int .i64 n) ∧ decide (0 ≤ n) = xs.any (sameNeed x) ∧ Ch Noone w w' := by
  have HS := Lib.hid h
  obtain ⟨ao, cap, rfl, h2, h3, h4, h5⟩ := h
  clear h2 h3 h4 h5
  have b0 : Blk (w.alloc (.cells #[.int .i64 x.pt, .bool x.rev] 48)) w.heap.size 48 #[.int .i64 x.pt, .bool x.rev] := Blk.new _ _ _
  have C0 : Ch Noone w (w.alloc (.cells #[.int .i64 x.pt, .bool x.rev] 48)) := (Ch.refl _ _).alloc _
  go_enter Tryz.func146, Tryz.ntmps146
  go_wp2_with fail
  go_loopw [5, 8] (fun _ i wr => ∃ k : Nat, k ≤ xs.length ∧ i = .int .i64 k ∧ Ch Noone w wr ∧ Blk wr w.heap.size 48 #[.int .i64 x.pt, .bool x.rev] ∧ Hid ((xs.take k).any (sameNeed x) = false)) (fun _ i _ => (xs.length - intOf i).toNat)
  case atStart => exact ⟨0, by omega, rfl, C0, b0, rfl⟩
  case round =>
    clear b0 C0
    obtain ⟨k, hk, rfl, hch, hb, hno⟩ := hrel
    by_cases hkl : k < xs.length
    · obtain ⟨b, off, rfl, _, _, hat⟩ := (Sl.ch0 HS.out hch).at (f := fNeed) (C := 2) (fun _ => rfl) (by omega) hkl
      have y0 : wr.cell? ⟨b, off + k * 2, none⟩ = some (.int .i64 xs[k].pt) := hat 0 (by omega)
      have y1 : wr.cell? ⟨b, off + k * 2 + 1, none⟩ = some (.bool xs[k].rev) := hat 1 (by omega)
      have z0 : wr.cell? ⟨w.heap.size, 0, none⟩ = some (.int .i64 x.pt) := hb.cell 0
      have z1 : wr.cell? ⟨w.heap.size, 1, none⟩ = some (.bool x.rev) := hb.cell 1
      have HT : Hid (sameNeed x xs[k] = false → (xs.take (k + 1)).any (sameNeed x) = false) := fun h => by
        rw [List.take_succ_eq_append_getElem hkl, List.any_append, hno.out]; simp [h]
      have HY : Hid (sameNeed x xs[k] = true → true = xs.any (sameNeed x)) := fun h => (List.any_eq_true.2 ⟨_, List.getElem_mem hkl, h⟩).symm
      clear hat hno
      generalize xs[k] = y at *
      have hk0 : (0 : Int) ≤ k := by omega
      have hk1 : (k : Int) < xs.length := by omega
      have he := fun w => eq_need w x.pt y.pt x.rev y.rev
      rw [show (x.pt == y.pt && x.rev == y.rev) = sameNeed x y from rfl] at he
      generalize sameNeed x y = t at *
      cases t
      · have HT' := Lib.hid (HT.out rfl)
        clear HT HY
        go_wp2_with fail
        go_quiet (fail)
        go_wp2_with fail
        go_roundw
        case rel => exact ⟨k + 1, by omega, by go_num, hch.drewN _, hb, HT'⟩
        case measure => simp [intOf]; omega
      · have HY' := Lib.hid (HY.out rfl)
        clear HT HY
        go_wp2_with fail
        go_quiet (fail)
        go_wp2_with fail
        go_ret
        exact ⟨k, rfl, by rw [← HY'.out]; simp, hch.drewN _⟩
    · go_wp2_with fail
      go_ret
      have h := hno.out
      rw [List.take_of_length_le (by omega)] at h
      exact ⟨-1, rfl, by rw [h]; rfl, hch⟩

set_option maxHeartbeats 1000000 in
theorem slcontains_needX (B : Nat → Prop) (w : World) (v : Value) (xs : List Need) (x : Need) (h : Sl B w v xs.length (xs.flatMap fNeed)) (hn : xs.length ≤ 9223372036854775807) :
    Calls Tryz.prog 128 #[v, .agg #[.int .i64 x.pt, .bool x.rev]] w fun r w' => r = .returned (.bool (xs.any (sameNeed x))) ∧ Ch Noone w w' := by
  have C0 : Ch Noone w (w.alloc (.cells #[.int .i64 x.pt, .bool x.rev] 48)) := (Ch.refl _ _).alloc _
  have HI := Lib.hid (slindex_needX B (w.alloc (.cells #[.int .i64 x.pt, .bool x.rev] 48)) v xs x (h.ch0 C0) hn)
  clear h hn
  go_enter Tryz.func128, Tryz.ntmps128
  go_wp2_with fail
  refine (HI.out).mono ?_
  rintro e w1 ⟨n, rfl, hn, hc1⟩
  have HN := Lib.hid hn
  clear hn
  go_wp2_with fail
  go_ret
  exact ⟨by rw [← HN.out]; rfl, C0.trans hc1⟩

/-- The closures of Conflict. -/
theorem confl1_any (B : Nat → Prop) (w : World) (g : Nat) (vp : Value) (p : List Int) (x : Int) (hg : w.cell? ⟨g, 3, none⟩ = some vp) (hp : Sl B w vp p.length (p.flatMap fInt)) (hl : p.length ≤ 100) :
    Calls Tryz.prog 124 #[.int .i64 x, .pointer (some ⟨g, 0, none⟩)] w fun r w' => r = .returned (.bool (hasB p x)) ∧ Ch Noone w w' := by
  have HC := Lib.hid (slcontains_int B w vp p x hp (by omega))
  go_enter Tryz.func124, Tryz.ntmps124
  go_wp2_with fail
  refine HC.out.mono ?_
  rintro e w1 ⟨rfl, rfl⟩
  go_wp2_with fail
  go_ret
  exact ⟨rfl, Ch.refl _ _⟩

def otherNeed (ns : List Need) (n : Need) : Bool := ns.any (sameNeed ⟨n.pt, !n.rev⟩)

set_option maxHeartbeats 4000000 in
theorem confl2_any (B : Nat → Prop) (w : World) (gl gs : Nat) (q1 q2 q3 q4 : Value) (L : Lay) (s : Nat) (x : Need) (hb : Blk w gl 26 #[q1, q2, q3, q4]) (hL : LayAt B w (.agg #[q1, q2, q3, q4]) L) (ok : LayOk L) (hs : s < L.routes.length) (hg : w.cell? ⟨gs, 0, none⟩ = some (.int .i64 s)) (hgl : gs < w.heap.size) :
    Calls Tryz.prog 127 #[.agg #[.int .i64 x.pt, .bool x.rev], .pointer (some ⟨gl, 0, none⟩), .pointer (some ⟨gs, 0, none⟩)] w fun r w' => r = .returned (.bool (otherNeed L.routes[s].needs x)) ∧ Ch Noone w w' := by
  obtain ⟨w0, hw0⟩ : ∃ w0, w0 = w.alloc (.cells #[.int .i64 x.pt, .bool x.rev] 48) := ⟨_, rfl⟩
  have c0 : Ch Noone w w0 := by rw [hw0]; exact (Ch.refl _ _).alloc _
  have bx : Blk w0 w.heap.size 48 #[.int .i64 x.pt, .bool x.rev] := by rw [hw0]; exact Blk.new _ _ _
  have hb0 := c0.blk hb (fun h => h)
  have HS : Hid (∀ W', Ch Noone w0 W' → W'.cell? ⟨gl, 0, none⟩ = some q1 ∧ W'.cell? ⟨gl, 0 + 1, none⟩ = some q2 ∧ W'.cell? ⟨gl, 0 + 2, none⟩ = some q3 ∧ W'.cell? ⟨gl, 0 + 3, none⟩ = some q4 ∧ W'.cell? ⟨gs, 0, none⟩ = some (.int .i64 s) ∧ W'.cell? ⟨w.heap.size, 0, none⟩ = some (.int .i64 x.pt) ∧ W'.cell? ⟨w.heap.size, 1, none⟩ = some (.bool x.rev)) := fun W' c => by
    have h1 := c.blk hb0 (fun h => h)
    have h2 := c.blk bx (fun h => h)
    exact ⟨h1.cell 0, h1.cell 1, h1.cell 2, h1.cell 3, ((c0.trans c).rd hgl _).trans hg, h2.cell 0, h2.cell 1⟩
  have HN := Lib.hid (needs_any B w0.drew _ L s ((hL.ch0 c0).ch0 (Ch.refl _ _).drew) ok hs)
  have HL : Hid (L.routes[s].needs.length ≤ 100) := by
    have l1 := ok.p1
    have n1 := needs_le (ok.route _ (List.getElem_mem hs)).pts
    have n2 := needs_le (ok.route _ (List.getElem_mem hs)).flank
    unfold Route.needs
    show _ ≤ _
    rw [List.length_append]; omega
  have HW0 := Lib.hid hw0
  have C0 := Lib.hid c0
  clear hb hL ok hg hgl c0 bx hb0 hw0
  generalize L.routes[s].needs = ns at *
  go_enter Tryz.func127, Tryz.ntmps127
  go_wp2_with fail
  rw [← HW0.out]
  go_region_held3 (fun W' => W'.cell? ⟨gl, 0, none⟩ = some q1 ∧ W'.cell? ⟨gl, 0 + 1, none⟩ = some q2 ∧ W'.cell? ⟨gl, 0 + 2, none⟩ = some q3 ∧ W'.cell? ⟨gl, 0 + 3, none⟩ = some q4 ∧ W'.cell? ⟨gs, 0, none⟩ = some (.int .i64 s) ∧ W'.cell? ⟨w.heap.size, 0, none⟩ = some (.int .i64 x.pt) ∧ W'.cell? ⟨w.heap.size, 1, none⟩ = some (.bool x.rev))
    (first | exact HS.out _ (Ch.refl _ _).drew | exact HS.out _ ((Ch.refl _ _).drew.trans c1) | exact HS.out _ (((Ch.refl _ _).drew.trans c1).trans c2))
    (first
      | (go_at_call 126; refine HN.out.mono ?_; rintro e w1 ⟨vn, rfl, ho, c1⟩)
      | (go_at_call 128; refine (slcontains_needX _ _ _ ns ⟨x.pt, !x.rev⟩ ho.sl (by have := HL.out; omega)).mono ?_; rintro e w2 ⟨rfl, c2⟩))
  go_wp2_with fail
  go_ret
  exact ⟨rfl, ((C0.out.drew).trans c1).trans c2⟩

/-- What a route's cells hold. -/
theorem LayAt.route {B : Nat → Prop} {w : World} {q1 q2 q3 q4 : Value} {L : Lay} (h : LayAt B w (.agg #[q1, q2, q3, q4]) L) {r : Nat} (hr : r < L.routes.length) :
    ∃ b off c u1 u2 u3, q4 = .slice (some ⟨b, off, none⟩) L.routes.length c ∧ L.routes.length ≤ c ∧ B b ∧ b < w.heap.size ∧
      w.cell? ⟨b, off + r * 6, none⟩ = some (.string L.routes[r].name) ∧ w.cell? ⟨b, off + r * 6 + 1, none⟩ = some (.int .i64 L.routes[r].frm) ∧ w.cell? ⟨b, off + r * 6 + 2, none⟩ = some (.int .i64 L.routes[r].to) ∧
      w.cell? ⟨b, off + r * 6 + 3, none⟩ = some u1 ∧ w.cell? ⟨b, off + r * 6 + 4, none⟩ = some u2 ∧ w.cell? ⟨b, off + r * 6 + 5, none⟩ = some u3 ∧
      Sl B w u1 L.routes[r].path.length (L.routes[r].path.flatMap fInt) ∧ Sl B w u2 L.routes[r].pts.length (L.routes[r].pts.flatMap fNeed) ∧ Sl B w u3 L.routes[r].flank.length (L.routes[r].flank.flatMap fNeed) := by
  obtain ⟨v1, v2, v3, v4, rs, e, -, -, -, h4, h5, h6⟩ := h
  simp only [Value.agg.injEq, Array.mk.injEq, List.cons.injEq, and_true] at e
  obtain ⟨rfl, rfl, rfl, rfl⟩ := e
  have hrl : rs.length = L.routes.length := by rw [← h4]; simp
  have hr' : r < rs.length := by omega
  have er : rs[r].1 = L.routes[r] := by
    have : (rs.map (·.1))[r]'(by simpa using hr') = L.routes[r] := by simp only [h4]
    simpa using this
  obtain ⟨hx1, hx2, hx3⟩ := h6 _ (List.getElem_mem hr')
  obtain ⟨a4, c4, rfl, hcc, -, -, -⟩ := id h5
  obtain ⟨b, off, rfl, hB, hbw, hat⟩ := h5.at (f := fRoute) (C := 6) (fun _ => rfl) (by omega) hr'
  rw [er] at hx1 hx2 hx3
  refine ⟨b, off, c4, rs[r].2.1, rs[r].2.2.1, rs[r].2.2.2, by rw [hrl], by omega, hB, hbw, ?_, ?_, ?_, hat 3 (by omega), hat 4 (by omega), hat 5 (by omega), hx1, hx2, hx3⟩
  · rw [← er]; exact hat 0 (by omega)
  · rw [← er]; exact hat 1 (by omega)
  · rw [← er]; exact hat 2 (by omega)

theorem needs_le100 {L : Lay} (ok : LayOk L) {r : Nat} (hr : r < L.routes.length) : L.routes[r].needs.length ≤ 100 := by
  have l1 := ok.p1
  have n1 := needs_le (ok.route _ (List.getElem_mem hr)).pts
  have n2 := needs_le (ok.route _ (List.getElem_mem hr)).flank
  unfold Route.needs
  rw [List.length_append]; omega

set_option maxRecDepth 100000 in
set_option maxHeartbeats 8000000 in
theorem conflict_any (B : Nat → Prop) (w : World) (v : Value) (L : Lay) (r s : Nat) (hL : LayAt B w v L) (ok : LayOk L) (hr : r < L.routes.length) (hs : s < L.routes.length) :
    Calls Tryz.prog 100 #[v, .int .i64 r, .int .i64 s] w fun e w' => ∃ t : Bool, e = .returned (.bool t) ∧ Ch Noone w w' := by
  have OK := Lib.hid ok
  obtain ⟨q1, q2, q3, q4, -, rfl, -⟩ := id hL
  obtain ⟨b, off, c, u1, u2, u3, e4, -, -, hbw, a0, a1, a2, a3, a4, a5, x1, x3, x4⟩ := hL.route hr
  obtain ⟨b', off', c', t1, t2, t3, e4', -, -, -, d0, d1, d2, d3, d4, d5, x2, x5, x6⟩ := hL.route hs
  obtain ⟨ua1, uc1, rfl, -, -, -, -⟩ := id x1
  obtain ⟨ua3, uc3, rfl, -, -, -, -⟩ := id x3
  obtain ⟨ua4, uc4, rfl, -, -, -, -⟩ := id x4
  obtain ⟨ua2, uc2, rfl, -, -, -, -⟩ := id x2
  obtain ⟨ua5, uc5, rfl, -, -, -, -⟩ := id x5
  obtain ⟨ua6, uc6, rfl, -, -, -, -⟩ := id x6
  subst e4
  simp only [Value.slice.injEq, Option.some.injEq, Addr.mk.injEq, and_true, true_and] at e4'
  obtain ⟨⟨rfl, rfl⟩, -⟩ := e4'
  obtain ⟨w0, hw0⟩ : ∃ w0, w0 = (w.alloc (.cells #[q1, q2, q3, .slice (some ⟨b, off, none⟩) L.routes.length c] 26)).alloc (.cells #[.int .i64 s] 3) := ⟨_, rfl⟩
  have c0 : Ch Noone w w0 := by rw [hw0]; exact ((Ch.refl _ _).alloc _).alloc _
  have hbl : Blk w0 w.heap.size 26 #[q1, q2, q3, .slice (some ⟨b, off, none⟩) L.routes.length c] := by rw [hw0]; exact (Blk.new _ _ _).alloc _
  have hbs : Blk w0 (w.heap.size + 1) 3 #[.int .i64 s] := by rw [hw0]; exact Blk.new2 _ _ _ _
  have HS : Hid (∀ W', Ch Noone w0 W' → W'.cell? ⟨w.heap.size, 3, none⟩ = some (.slice (some ⟨b, off, none⟩) L.routes.length c) ∧ W'.cell? ⟨w.heap.size + 1, 0, none⟩ = some (.int .i64 s) ∧
      (W'.cell? ⟨b, off + r * 6, none⟩ = some (.string L.routes[r].name) ∧ W'.cell? ⟨b, off + r * 6 + 1, none⟩ = some (.int .i64 L.routes[r].frm) ∧ W'.cell? ⟨b, off + r * 6 + 2, none⟩ = some (.int .i64 L.routes[r].to) ∧ W'.cell? ⟨b, off + r * 6 + 3, none⟩ = some (.slice ua1 L.routes[r].path.length uc1) ∧ W'.cell? ⟨b, off + r * 6 + 4, none⟩ = some (.slice ua3 L.routes[r].pts.length uc3) ∧ W'.cell? ⟨b, off + r * 6 + 5, none⟩ = some (.slice ua4 L.routes[r].flank.length uc4)) ∧
      (W'.cell? ⟨b, off + s * 6, none⟩ = some (.string L.routes[s].name) ∧ W'.cell? ⟨b, off + s * 6 + 1, none⟩ = some (.int .i64 L.routes[s].frm) ∧ W'.cell? ⟨b, off + s * 6 + 2, none⟩ = some (.int .i64 L.routes[s].to) ∧ W'.cell? ⟨b, off + s * 6 + 3, none⟩ = some (.slice ua2 L.routes[s].path.length uc2) ∧ W'.cell? ⟨b, off + s * 6 + 4, none⟩ = some (.slice ua5 L.routes[s].pts.length uc5) ∧ W'.cell? ⟨b, off + s * 6 + 5, none⟩ = some (.slice ua6 L.routes[s].flank.length uc6))) := fun W' c => by
    have h1 := c.blk hbl (fun h => h)
    have h2 := c.blk hbs (fun h => h)
    have h3 := fun i => (c0.trans c).rd hbw i
    exact ⟨h1.cell 3, h2.cell 0, ⟨(h3 _).trans a0, (h3 _).trans a1, (h3 _).trans a2, (h3 _).trans a3, (h3 _).trans a4, (h3 _).trans a5⟩, ⟨(h3 _).trans d0, (h3 _).trans d1, (h3 _).trans d2, (h3 _).trans d3, (h3 _).trans d4, (h3 _).trans d5⟩⟩
  have HW0 := Lib.hid hw0
  have C0 := Lib.hid c0
  have HL := Lib.hid hL
  have X1 := Lib.hid x1
  have X2 := Lib.hid x2
  have BL := Lib.hid hbl
  have BS := Lib.hid hbs
  have LR : Hid (L.routes[r].path.length ≤ 100 ∧ L.routes[s].path.length ≤ 100) := ⟨by have := (ok.route _ (List.getElem_mem hr)).path.2.2.2; omega, by have := (ok.route _ (List.getElem_mem hs)).path.2.2.2; omega⟩
  clear x3 x4 x5 x6
  clear hL ok a0 a1 a2 a3 a4 a5 d0 d1 d2 d3 d4 d5 x1 x2 hw0 c0 hbl hbs
  have hr0 : (0 : Int) ≤ r := by omega
  have hr1 : (r : Int) < L.routes.length := by omega
  have hs0 : (0 : Int) ≤ s := by omega
  have hs1 : (s : Int) < L.routes.length := by omega
  go_enter Tryz.func100, Tryz.ntmps100
  go_wp2_with fail
  rw [← HW0.out]
  go_region_held3 (fun W' => W'.cell? ⟨w.heap.size, 3, none⟩ = some (.slice (some ⟨b, off, none⟩) L.routes.length c) ∧ W'.cell? ⟨w.heap.size + 1, 0, none⟩ = some (.int .i64 s) ∧
      (W'.cell? ⟨b, off + r * 6, none⟩ = some (.string L.routes[r].name) ∧ W'.cell? ⟨b, off + r * 6 + 1, none⟩ = some (.int .i64 L.routes[r].frm) ∧ W'.cell? ⟨b, off + r * 6 + 2, none⟩ = some (.int .i64 L.routes[r].to) ∧ W'.cell? ⟨b, off + r * 6 + 3, none⟩ = some (.slice ua1 L.routes[r].path.length uc1) ∧ W'.cell? ⟨b, off + r * 6 + 4, none⟩ = some (.slice ua3 L.routes[r].pts.length uc3) ∧ W'.cell? ⟨b, off + r * 6 + 5, none⟩ = some (.slice ua4 L.routes[r].flank.length uc4)) ∧
      (W'.cell? ⟨b, off + s * 6, none⟩ = some (.string L.routes[s].name) ∧ W'.cell? ⟨b, off + s * 6 + 1, none⟩ = some (.int .i64 L.routes[s].frm) ∧ W'.cell? ⟨b, off + s * 6 + 2, none⟩ = some (.int .i64 L.routes[s].to) ∧ W'.cell? ⟨b, off + s * 6 + 3, none⟩ = some (.slice ua2 L.routes[s].path.length uc2) ∧ W'.cell? ⟨b, off + s * 6 + 4, none⟩ = some (.slice ua5 L.routes[s].pts.length uc5) ∧ W'.cell? ⟨b, off + s * 6 + 5, none⟩ = some (.slice ua6 L.routes[s].flank.length uc6)))
    ((refine HS.out _ ?_; repeat (first | exact Ch.refl _ _ | apply Ch.drew | apply Ch.alloc | (refine Ch.set ?_ (fun h => absurd h (by simp)) _ _)))) (fail)
  · go_wp2_with fail
    obtain ⟨W, hW⟩ : ∃ W, W = ((w0.alloc (.cells #[.string L.routes[r].name, .int .i64 L.routes[r].frm, .int .i64 L.routes[r].to, .slice ua1 L.routes[r].path.length uc1, .slice ua3 L.routes[r].pts.length uc3, .slice ua4 L.routes[r].flank.length uc4] 54)).alloc (.cells #[.string L.routes[s].name, .int .i64 L.routes[s].frm, .int .i64 L.routes[s].to, .slice ua2 L.routes[s].path.length uc2, .slice ua5 L.routes[s].pts.length uc5, .slice ua6 L.routes[s].flank.length uc6] 54)).drew := ⟨_, rfl⟩
    rw [← hW]
    have cW : Ch Noone w0 W := by rw [hW]; exact (((Ch.refl _ _).alloc _).alloc _).drew
    have bR : Blk W (w0.heap.size) 54 #[.string L.routes[r].name, .int .i64 L.routes[r].frm, .int .i64 L.routes[r].to, .slice ua1 L.routes[r].path.length uc1, .slice ua3 L.routes[r].pts.length uc3, .slice ua4 L.routes[r].flank.length uc4] := by rw [hW]; exact ((Blk.new _ _ _).alloc _).drew
    have bS : Blk W (w0.heap.size + 1) 54 #[.string L.routes[s].name, .int .i64 L.routes[s].frm, .int .i64 L.routes[s].to, .slice ua2 L.routes[s].path.length uc2, .slice ua5 L.routes[s].pts.length uc5, .slice ua6 L.routes[s].flank.length uc6] := by rw [hW]; exact (Blk.new2 _ _ _ _).drew
    clear hW
    have CW := Lib.hid cW
    have BR := Lib.hid bR
    have BQ := Lib.hid bS
    clear cW bR bS
    refine (containsFunc_confl1 B W _ L.routes[r].path (.pointer (some ⟨w0.heap.size + 1, 0, none⟩)) (hasB L.routes[s].path) (X1.out.ch0 (C0.out.trans CW.out)) (by have := LR.out.1; omega) (fun w' x hx c => confl1_any B w' _ _ L.routes[s].path x ((c.blk BQ.out (fun h => h)).cell 3) (X2.out.ch0 ((C0.out.trans CW.out).trans c)) LR.out.2)).mono ?_
    rintro e w2 ⟨rfl, c2⟩
    generalize L.routes[r].path.any (hasB L.routes[s].path) = t1
    have C2 : Hid (Ch Noone w0 w2) := CW.out.trans c2
    have bl2 := C2.out.blk BL.out (fun h => h)
    have BR2 := Lib.hid (c2.blk BR.out (fun h => h))
    have BQ2 := Lib.hid (c2.blk BQ.out (fun h => h))
    have BL2 := Lib.hid bl2
    have BS2 := Lib.hid (C2.out.blk BS.out (fun h => h))
    have l0 : w2.cell? ⟨w.heap.size, 0, none⟩ = some q1 := bl2.cell 0
    have l1 : w2.cell? ⟨w.heap.size, 0 + 1, none⟩ = some q2 := bl2.cell 1
    have l2 : w2.cell? ⟨w.heap.size, 0 + 2, none⟩ = some q3 := bl2.cell 2
    have l3 : w2.cell? ⟨w.heap.size, 0 + 3, none⟩ = some (.slice (some ⟨b, off, none⟩) L.routes.length c) := bl2.cell 3
    clear bl2 c2 CW BR BQ
    go_wp2_with fail
    refine (needs_any B w2 _ L r (HL.out.ch0 (C0.out.trans C2.out)) OK.out hr).mono ?_
    rintro e w3 ⟨vn, rfl, ho, c3⟩
    have HO := Lib.hid ho
    have C3 := Lib.hid c3
    have HN := Lib.hid (needs_le100 OK.out hr)
    clear ho c3 l0 l1 l2 l3
    go_wp2_with fail
    refine (containsFunc_confl2 _ w3 vn L.routes[r].needs (.pointer (some ⟨w.heap.size, 0, none⟩)) (.pointer (some ⟨w.heap.size + 1, 0, none⟩)) (otherNeed L.routes[s].needs) HO.out.sl (by have := HN.out; omega) (fun w' x hx c => confl2_any B w' _ _ q1 q2 q3 _ L s x (c.blk (C3.out.blk BL2.out (fun h => h)) (fun h => h)) (HL.out.ch0 (((C0.out.trans C2.out).trans C3.out).trans c)) OK.out hs ((c.blk (C3.out.blk BS2.out (fun h => h)) (fun h => h)).cell 0) (c.blk (C3.out.blk BS2.out (fun h => h)) (fun h => h)).lt)).mono ?_
    rintro e w4 ⟨rfl, c4⟩
    generalize L.routes[r].needs.any (otherNeed L.routes[s].needs) = t2
    have C4 : Hid (Ch Noone w2 w4) := C3.out.trans c4
    have z1 : w4.cell? ⟨w.heap.size + 1, 0, none⟩ = some (.int .i64 s) := (C4.out.blk BS2.out (fun h => h)).cell 0
    have z2 : w4.cell? ⟨w0.heap.size, 1, none⟩ = some (.int .i64 L.routes[r].frm) := (C4.out.blk BR2.out (fun h => h)).cell 1
    have z3 : w4.cell? ⟨w0.heap.size + 1, 1, none⟩ = some (.int .i64 L.routes[s].frm) := (C4.out.blk BQ2.out (fun h => h)).cell 1
    clear c4
    go_wp2_with fail
    all_goals (go_ret; exact ⟨_, rfl, (C0.out.trans C2.out).trans C4.out⟩)
  · go_wp2_with fail
    obtain ⟨W, hW⟩ : ∃ W, W = ((w0.alloc (.cells #[.string L.routes[s].name, .int .i64 L.routes[s].frm, .int .i64 L.routes[s].to, .slice ua2 L.routes[s].path.length uc2, .slice ua5 L.routes[s].pts.length uc5, .slice ua6 L.routes[s].flank.length uc6] 54)).alloc (.cells #[.string L.routes[r].name, .int .i64 L.routes[r].frm, .int .i64 L.routes[r].to, .slice ua1 L.routes[r].path.length uc1, .slice ua3 L.routes[r].pts.length uc3, .slice ua4 L.routes[r].flank.length uc4] 54)).drew := ⟨_, rfl⟩
    rw [← hW]
    have cW : Ch Noone w0 W := by rw [hW]; exact (((Ch.refl _ _).alloc _).alloc _).drew
    have bR : Blk W (w0.heap.size + 1) 54 #[.string L.routes[r].name, .int .i64 L.routes[r].frm, .int .i64 L.routes[r].to, .slice ua1 L.routes[r].path.length uc1, .slice ua3 L.routes[r].pts.length uc3, .slice ua4 L.routes[r].flank.length uc4] := by rw [hW]; exact (Blk.new2 _ _ _ _).drew
    have bS : Blk W (w0.heap.size) 54 #[.string L.routes[s].name, .int .i64 L.routes[s].frm, .int .i64 L.routes[s].to, .slice ua2 L.routes[s].path.length uc2, .slice ua5 L.routes[s].pts.length uc5, .slice ua6 L.routes[s].flank.length uc6] := by rw [hW]; exact ((Blk.new _ _ _).alloc _).drew
    clear hW
    have CW := Lib.hid cW
    have BR := Lib.hid bR
    have BQ := Lib.hid bS
    clear cW bR bS
    refine (containsFunc_confl1 B W _ L.routes[r].path (.pointer (some ⟨w0.heap.size, 0, none⟩)) (hasB L.routes[s].path) (X1.out.ch0 (C0.out.trans CW.out)) (by have := LR.out.1; omega) (fun w' x hx c => confl1_any B w' _ _ L.routes[s].path x ((c.blk BQ.out (fun h => h)).cell 3) (X2.out.ch0 ((C0.out.trans CW.out).trans c)) LR.out.2)).mono ?_
    rintro e w2 ⟨rfl, c2⟩
    generalize L.routes[r].path.any (hasB L.routes[s].path) = t1
    have C2 : Hid (Ch Noone w0 w2) := CW.out.trans c2
    have bl2 := C2.out.blk BL.out (fun h => h)
    have BR2 := Lib.hid (c2.blk BR.out (fun h => h))
    have BQ2 := Lib.hid (c2.blk BQ.out (fun h => h))
    have BL2 := Lib.hid bl2
    have BS2 := Lib.hid (C2.out.blk BS.out (fun h => h))
    have l0 : w2.cell? ⟨w.heap.size, 0, none⟩ = some q1 := bl2.cell 0
    have l1 : w2.cell? ⟨w.heap.size, 0 + 1, none⟩ = some q2 := bl2.cell 1
    have l2 : w2.cell? ⟨w.heap.size, 0 + 2, none⟩ = some q3 := bl2.cell 2
    have l3 : w2.cell? ⟨w.heap.size, 0 + 3, none⟩ = some (.slice (some ⟨b, off, none⟩) L.routes.length c) := bl2.cell 3
    clear bl2 c2 CW BR BQ
    go_wp2_with fail
    refine (needs_any B w2 _ L r (HL.out.ch0 (C0.out.trans C2.out)) OK.out hr).mono ?_
    rintro e w3 ⟨vn, rfl, ho, c3⟩
    have HO := Lib.hid ho
    have C3 := Lib.hid c3
    have HN := Lib.hid (needs_le100 OK.out hr)
    clear ho c3 l0 l1 l2 l3
    go_wp2_with fail
    refine (containsFunc_confl2 _ w3 vn L.routes[r].needs (.pointer (some ⟨w.heap.size, 0, none⟩)) (.pointer (some ⟨w.heap.size + 1, 0, none⟩)) (otherNeed L.routes[s].needs) HO.out.sl (by have := HN.out; omega) (fun w' x hx c => confl2_any B w' _ _ q1 q2 q3 _ L s x (c.blk (C3.out.blk BL2.out (fun h => h)) (fun h => h)) (HL.out.ch0 (((C0.out.trans C2.out).trans C3.out).trans c)) OK.out hs ((c.blk (C3.out.blk BS2.out (fun h => h)) (fun h => h)).cell 0) (c.blk (C3.out.blk BS2.out (fun h => h)) (fun h => h)).lt)).mono ?_
    rintro e w4 ⟨rfl, c4⟩
    generalize L.routes[r].needs.any (otherNeed L.routes[s].needs) = t2
    have C4 : Hid (Ch Noone w2 w4) := C3.out.trans c4
    have z1 : w4.cell? ⟨w.heap.size + 1, 0, none⟩ = some (.int .i64 s) := (C4.out.blk BS2.out (fun h => h)).cell 0
    have z2 : w4.cell? ⟨w0.heap.size + 1, 1, none⟩ = some (.int .i64 L.routes[r].frm) := (C4.out.blk BR2.out (fun h => h)).cell 1
    have z3 : w4.cell? ⟨w0.heap.size, 1, none⟩ = some (.int .i64 L.routes[s].frm) := (C4.out.blk BQ2.out (fun h => h)).cell 1
    clear c4
    go_wp2_with fail
    all_goals (go_ret; exact ⟨_, rfl, (C0.out.trans C2.out).trans C4.out⟩)
end Go.Proofs.YtkplgggdidhnoaaGreatDoor

namespace Go.Proofs.YtkplgggdidhnoaaGreatDoor
open Go.ChangeShapes Go.WideShapes Go.ChangeAt Go.RowKit
set_option linter.unusedVariables false

/-- What the field tells. -/
def InR (B : Nat → Prop) (w : World) (v : Value) (occ : List Bool) (lies : List Int) : Prop :=
  ∃ v1 v2, v = .agg #[v1, v2] ∧ Sl B w v1 occ.length (occ.flatMap fB) ∧ Sl B w v2 lies.length (lies.flatMap fInt)
theorem InR.ch {B S : Nat → Prop} {w w' : World} {v : Value} {occ : List Bool} {lies : List Int} (h : InR B w v occ lies) (c : Ch S w w') (hs : ∀ b, B b → b < w.heap.size → ¬ S b) : InR B w' v occ lies := by
  obtain ⟨v1, v2, e, h1, h2⟩ := h
  exact ⟨v1, v2, e, h1.ch c hs, h2.ch c hs⟩
theorem InR.ch0 {B : Nat → Prop} {w w' : World} {v : Value} {occ : List Bool} {lies : List Int} (h : InR B w v occ lies) (c : Ch Noone w w') : InR B w' v occ lies := h.ch c fun _ _ _ h => h
theorem InR.mono {B B' : Nat → Prop} {w : World} {v : Value} {occ : List Bool} {lies : List Int} (h : InR B w v occ lies) (hb : ∀ b, B b → b < w.heap.size → B' b) : InR B' w v occ lies := by
  obtain ⟨v1, v2, e, h1, h2⟩ := h
  exact ⟨v1, v2, e, h1.mono hb, h2.mono hb⟩

def posOf (n : Need) : Int := if n.rev then 2 else 1
def lieB (lies : List Int) (n : Need) : Bool := lies.getD n.pt.toNat 0 == posOf n
def occB (occ : List Bool) (x : Int) : Bool := occ.getD x.toNat false

theorem position_any (w : World) (n : Need) : Calls Tryz.prog 163 #[.agg #[.int .i64 n.pt, .bool n.rev]] w fun r w' => r = .returned (.int .i64 (posOf n)) ∧ Ch Noone w w' := by
  obtain ⟨p, r⟩ := n
  cases r
  all_goals
    go_enter Tryz.func163, Tryz.ntmps163
    go_wp2_with fail
    go_ret
    exact ⟨rfl, (Ch.refl _ _).alloc _⟩

set_option maxHeartbeats 4000000 in
set_option maxRecDepth 100000 in
theorem lies_any (B : Nat → Prop) (w : World) (v : Value) (occ : List Bool) (lies : List Int) (n : Need) (hI : InR B w v occ lies) (h0 : 0 ≤ n.pt) (h1 : n.pt < lies.length) (hl : lies.length ≤ 100) :
    Calls Tryz.prog 162 #[v, .agg #[.int .i64 n.pt, .bool n.rev]] w fun r w' => r = .returned (.bool (lieB lies n)) ∧ Ch Noone w w' := by
  obtain ⟨v1, v2, rfl, s1, s2⟩ := hI
  obtain ⟨np, nr⟩ := n
  dsimp only at *
  obtain ⟨k, rfl⟩ : ∃ k : Nat, np = k := ⟨np.toNat, by omega⟩
  have hkl : k < lies.length := by omega
  have hx : lies.getD ((k : Int)).toNat 0 = lies[k] := by simp [hkl]
  have HX := Lib.hid hx
  obtain ⟨a2, c2, rfl, -, -, -, -⟩ := id s2
  obtain ⟨b, off, rfl, -, hbw, hat⟩ := s2.at (f := fInt) (C := 1) (fun _ => rfl) (by omega) hkl
  have y0 := hat 0 (by omega)
  rw [Nat.mul_one] at y0
  have y1 : w.cell? ⟨b, off + k, none⟩ = some (.int .i64 lies[k]) := y0
  obtain ⟨w0, hw0⟩ : ∃ w0, w0 = (w.alloc (.cells #[v1, .slice (some ⟨b, off, none⟩) lies.length c2] 133)).alloc (.cells #[.int .i64 k, .bool nr] 48) := ⟨_, rfl⟩
  have c0 : Ch Noone w w0 := by rw [hw0]; exact ((Ch.refl _ _).alloc _).alloc _
  have bi : Blk w0 w.heap.size 133 #[v1, .slice (some ⟨b, off, none⟩) lies.length c2] := by rw [hw0]; exact (Blk.new _ _ _).alloc _
  have bn : Blk w0 (w.heap.size + 1) 48 #[.int .i64 k, .bool nr] := by rw [hw0]; exact Blk.new2 _ _ _ _
  have HS : Hid (∀ W', Ch Noone w0 W' → W'.cell? ⟨w.heap.size, 1, none⟩ = some (.slice (some ⟨b, off, none⟩) lies.length c2) ∧ W'.cell? ⟨w.heap.size + 1, 0, none⟩ = some (.int .i64 k) ∧ W'.cell? ⟨w.heap.size + 1, 0 + 1, none⟩ = some (.bool nr) ∧ W'.cell? ⟨b, off + k, none⟩ = some (.int .i64 lies[k])) := fun W' c =>
    ⟨(c.blk bi (fun h => h)).cell 1, (c.blk bn (fun h => h)).cell 0, (c.blk bn (fun h => h)).cell 1, ((c0.trans c).rd hbw _).trans y1⟩
  have HP := Lib.hid (position_any w0.drew ⟨k, nr⟩)
  have HW0 := Lib.hid hw0
  have C0 := Lib.hid c0
  have e1 : Hid (lieB lies ⟨k, nr⟩ = (lies[k] == posOf ⟨k, nr⟩)) := by unfold Hid lieB; dsimp only; rw [hx]
  rw [e1.out]
  have hk0 : (0 : Int) ≤ k := by omega
  have hk1 : (k : Int) < lies.length := by omega
  clear s1 s2 hx hat y0 y1 hw0 c0 bi bn h0 h1 e1 HX
  generalize lies[k] = y at *
  generalize posOf ⟨k, nr⟩ = q at *
  go_enter Tryz.func162, Tryz.ntmps162
  go_wp2_with fail
  rw [← HW0.out]
  go_region_held3 (fun W' => W'.cell? ⟨w.heap.size, 1, none⟩ = some (.slice (some ⟨b, off, none⟩) lies.length c2) ∧ W'.cell? ⟨w.heap.size + 1, 0, none⟩ = some (.int .i64 k) ∧ W'.cell? ⟨w.heap.size + 1, 0 + 1, none⟩ = some (.bool nr) ∧ W'.cell? ⟨b, off + k, none⟩ = some (.int .i64 y))
    (first | exact HS.out _ (Ch.refl _ _).drew | exact HS.out _ ((Ch.refl _ _).drew.trans c1))
    ((go_at_call 163; refine HP.out.mono ?_; rintro e w1 ⟨rfl, c1⟩))
  go_wp2_with fail
  go_ret
  exact ⟨rfl, (C0.out.drew).trans c1⟩

/-- Needs that the field tells of. -/
def NeedsIn (ns : List Need) (lies : List Int) : Prop := ∀ n ∈ ns, 0 ≤ n.pt ∧ n.pt < lies.length

set_option maxHeartbeats 2000000 in
theorem allLie1_any (B : Nat → Prop) (w : World) (g : Nat) (v1 v2 : Value) (occ : List Bool) (lies : List Int) (n : Need) (hg : Blk w g 133 #[v1, v2]) (hI : InR B w (.agg #[v1, v2]) occ lies) (h0 : 0 ≤ n.pt) (h1 : n.pt < lies.length) (hl : lies.length ≤ 100) :
    Calls Tryz.prog 165 #[.agg #[.int .i64 n.pt, .bool n.rev], .pointer (some ⟨g, 0, none⟩)] w fun r w' => r = .returned (.bool (!lieB lies n)) ∧ Ch Noone w w' := by
  obtain ⟨w0, hw0⟩ : ∃ w0, w0 = w.alloc (.cells #[.int .i64 n.pt, .bool n.rev] 48) := ⟨_, rfl⟩
  have c0 : Ch Noone w w0 := by rw [hw0]; exact (Ch.refl _ _).alloc _
  have x0 : w.cell? ⟨g, 0, none⟩ = some v1 := hg.cell 0
  have x1 : w.cell? ⟨g, 0 + 1, none⟩ = some v2 := hg.cell 1
  have hgl := hg.lt
  have HL := Lib.hid (lies_any B w0 _ occ lies n (hI.ch0 c0) h0 h1 hl)
  have HW0 := Lib.hid hw0
  have C0 := Lib.hid c0
  clear hg hI h0 h1 hw0 c0
  generalize lieB lies n = q at *
  go_enter Tryz.func165, Tryz.ntmps165
  go_wp2_with fail
  rw [← HW0.out]
  refine HL.out.mono ?_
  rintro e w1 ⟨rfl, c1⟩
  go_wp2_with fail
  go_ret
  exact ⟨rfl, C0.out.trans c1⟩

theorem any_not {α : Type} (f : α → Bool) : ∀ l : List α, (!(l.any fun x => !f x)) = l.all f
  | [] => rfl
  | x :: l => by
    have h := any_not f l
    simp only [List.any_cons, List.all_cons, Bool.not_or, Bool.not_not, h]

theorem LockAt.blkOf {O : Nat → Prop} {w : World} {b : Nat} {L : Lay} {rs : List RS} (h : LockAt O w b L rs) : ∃ v1 v2 v3 v4 v5, Blk w b 95 #[v1, v2, v3, v4, v5] ∧ LayAt O w (.agg #[v1, v2, v3, v4]) L ∧ Sl (fun g => O g ∧ g ≠ b) w v5 rs.length (rs.flatMap fRS) := by
  obtain ⟨h0, h1, v1, v2, v3, v4, v5, h2, h3, h4⟩ := h
  exact ⟨v1, v2, v3, v4, v5, h2, h3.mono fun g hg _ => hg.1, h4.sl⟩

set_option maxHeartbeats 2000000 in
theorem allLie_any (O B : Nat → Prop) (w : World) (b : Nat) (L : Lay) (rs : List RS) (v : Value) (occ : List Bool) (lies : List Int) (r : Nat) (h : LockAt O w b L rs) (ok : LayOk L) (hI : InR B w v occ lies) (hl : lies.length = L.pts.length) (hr : r < L.routes.length) :
    Calls Tryz.prog 153 #[.pointer (some ⟨b, 0, none⟩), v, .int .i64 r] w fun e w' => e = .returned (.bool (L.routes[r].needs.all (lieB lies))) ∧ Ch Noone w w' := by
  obtain ⟨q1, q2, q3, q4, q5, hb, hL, -⟩ := h.blkOf
  obtain ⟨v1, v2, rfl, -, -⟩ := id hI
  obtain ⟨w0, hw0⟩ : ∃ w0, w0 = w.alloc (.cells #[v1, v2] 133) := ⟨_, rfl⟩
  have c0 : Ch Noone w w0 := by rw [hw0]; exact (Ch.refl _ _).alloc _
  have bi : Blk w0 w.heap.size 133 #[v1, v2] := by rw [hw0]; exact Blk.new _ _ _
  have x0 : w.cell? ⟨b, 0, none⟩ = some q1 := hb.cell 0
  have x1 : w.cell? ⟨b, 0 + 1, none⟩ = some q2 := hb.cell 1
  have x2 : w.cell? ⟨b, 0 + 2, none⟩ = some q3 := hb.cell 2
  have x3 : w.cell? ⟨b, 0 + 3, none⟩ = some q4 := hb.cell 3
  have hbl := hb.lt
  have HN := Lib.hid (needs_any O w0 _ L r (hL.ch0 c0) ok hr)
  have HNL := Lib.hid (needs_le100 ok hr)
  have HIn : Hid (NeedsIn L.routes[r].needs lies) := fun n hn => by
    have hro := ok.route _ (List.getElem_mem hr)
    rw [hl]
    rcases List.mem_append.1 hn with h | h
    · exact ⟨(hro.pts.1 n h).1, (hro.pts.1 n h).2.1⟩
    · exact ⟨(hro.flank.1 n h).1, (hro.flank.1 n h).2.1⟩
  have hl5 : lies.length ≤ 100 := by have := ok.p1; omega
  have HW0 := Lib.hid hw0
  have C0 := Lib.hid c0
  have BI := Lib.hid bi
  have HI := Lib.hid (hI.ch0 c0)
  clear h ok hI hb hL hw0 c0 bi hl
  generalize L.routes[r].needs = ns at *
  go_enter Tryz.func153, Tryz.ntmps153
  go_wp2_with fail
  rw [← HW0.out]
  refine HN.out.mono ?_
  rintro e w1 ⟨vn, rfl, ho, c1⟩
  have HO := Lib.hid ho
  clear ho x0 x1 x2 x3
  go_wp2_with fail
  refine (containsFunc_lie1 _ w1 vn ns (.pointer (some ⟨w.heap.size, 0, none⟩)) (fun n => !lieB lies n) HO.out.sl (by have := HNL.out; omega) (fun w' n hn c => allLie1_any B w' _ v1 v2 occ lies n (c.blk (c1.blk BI.out (fun h => h)) (fun h => h)) ((HI.out.ch0 c1).ch0 c) (HIn.out n hn).1 (HIn.out n hn).2 hl5)).mono ?_
  rintro e w2 ⟨rfl, c2⟩
  have HA := Lib.hid (any_not (lieB lies) ns)
  go_wp2_with fail
  go_ret
  exact ⟨by rw [← HA.out]; rfl, (C0.out.trans c1).trans c2⟩

set_option maxHeartbeats 2000000 in
theorem isOcc1_any (B : Nat → Prop) (w : World) (g : Nat) (v1 v2 : Value) (occ : List Bool) (lies : List Int) (x : Int) (hg : Blk w g 133 #[v1, v2]) (hI : InR B w (.agg #[v1, v2]) occ lies) (h0 : 0 ≤ x) (h1 : x < occ.length) (hl : occ.length ≤ 100) :
    Calls Tryz.prog 164 #[.int .i64 x, .pointer (some ⟨g, 0, none⟩)] w fun r w' => r = .returned (.bool (occB occ x)) ∧ Ch Noone w w' := by
  obtain ⟨k, rfl⟩ : ∃ k : Nat, x = k := ⟨x.toNat, by omega⟩
  have hkl : k < occ.length := by omega
  obtain ⟨a1, a2, e, s1, -⟩ := hI
  simp only [Value.agg.injEq, Array.mk.injEq, List.cons.injEq, and_true] at e
  obtain ⟨rfl, rfl⟩ := e
  obtain ⟨a2, c2, rfl, -, -, -, -⟩ := id s1
  obtain ⟨b, off, rfl, -, hbw, hat⟩ := s1.at (f := fB) (C := 1) (fun _ => rfl) (by omega) hkl
  have y0 := hat 0 (by omega)
  rw [Nat.mul_one] at y0
  have y1 : w.cell? ⟨b, off + k, none⟩ = some (.bool occ[k]) := y0
  have x0 : w.cell? ⟨g, 0, none⟩ = some (.slice (some ⟨b, off, none⟩) occ.length c2) := hg.cell 0
  have HX : Hid (occB occ k = occ[k]) := by unfold Hid occB; simp [hkl]
  rw [HX.out]
  have hk0 : (0 : Int) ≤ k := by omega
  have hk1 : (k : Int) < occ.length := by omega
  clear hg s1 hat y0 h0 h1
  generalize occ[k] = y at *
  go_enter Tryz.func164, Tryz.ntmps164
  go_wp2_with fail
  go_ret
  exact ⟨rfl, Ch.refl _ _⟩

set_option maxHeartbeats 2000000 in
theorem isOcc_any (B B' : Nat → Prop) (w : World) (v vp : Value) (occ : List Bool) (lies : List Int) (p : List Int) (hI : InR B w v occ lies) (hp : Sl B' w vp p.length (p.flatMap fInt)) (hl : occ.length ≤ 100) (hpl : p.length ≤ 100) (hin : ∀ x ∈ p, 0 ≤ x ∧ x < occ.length) :
    Calls Tryz.prog 152 #[v, vp] w fun e w' => e = .returned (.bool (p.any (occB occ))) ∧ Ch Noone w w' := by
  obtain ⟨v1, v2, rfl, -, -⟩ := id hI
  have c0 : Ch Noone w (w.alloc (.cells #[v1, v2] 133)) := (Ch.refl _ _).alloc _
  have HC := Lib.hid (containsFunc_occ1 B' (w.alloc (.cells #[v1, v2] 133)) vp p (.pointer (some ⟨w.heap.size, 0, none⟩)) (occB occ) (hp.ch0 c0) (by omega) (fun w' x hx c => isOcc1_any B w' _ v1 v2 occ lies x (c.blk (Blk.new _ _ _) (fun h => h)) ((hI.ch0 c0).ch0 c) (hin x hx).1 (hin x hx).2 hl))
  have C0 := Lib.hid c0
  clear hI hp hin c0
  go_enter Tryz.func152, Tryz.ntmps152
  go_wp2_with fail
  refine HC.out.mono ?_
  rintro e w1 ⟨rfl, c1⟩
  go_wp2_with fail
  go_ret
  exact ⟨rfl, C0.out.trans c1⟩

def offB (x : Int) : Bool := decide (x < 0) || decide (2 < x)
theorem mayIn1_any (w : World) (x : Int) : Calls Tryz.prog 157 #[.int .i64 x] w fun r w' => r = .returned (.bool (offB x)) ∧ Ch Noone w w' := by
  by_cases h : x < 0
  · have e : Hid (offB x = true) := by unfold Hid offB; simp [h]
    rw [e.out]
    go_enter Tryz.func157, Tryz.ntmps157
    go_wp2_with fail
    go_ret
    exact ⟨rfl, Ch.refl _ _⟩
  · by_cases h2 : 2 < x
    · have e : Hid (offB x = true) := by unfold Hid offB; simp [h2]
      rw [e.out]
      go_enter Tryz.func157, Tryz.ntmps157
      go_wp2_with fail
      go_ret
      exact ⟨rfl, Ch.refl _ _⟩
    · have e : Hid (offB x = false) := by unfold Hid offB; simp; omega
      rw [e.out]
      have h3 : 0 ≤ x := by omega
      have h4 : x ≤ 2 := by omega
      clear h h2
      go_enter Tryz.func157, Tryz.ntmps157
      go_wp2_with fail
      go_ret
      have e1 : decide (x < 0) = false := by simpa using h3
      have e2 : decide (2 < x) = false := by simpa using h4
      exact ⟨by simp [e1, e2], Ch.refl _ _⟩

set_option maxRecDepth 100000 in
set_option maxHeartbeats 2000000 in
/-- What the field tells may be. -/
theorem mayIn_yes (B B' : Nat → Prop) (w : World) (vl v : Value) (L : Lay) (occ : List Bool) (lies : List Int) (hL : LayAt B' w vl L) (ok : LayOk L) (hI : InR B w v occ lies) (ho : occ.length = L.secs.length) (hl : lies.length = L.pts.length) (hz : ∀ x ∈ lies, 0 ≤ x ∧ x ≤ 2) :
    Calls Tryz.prog 147 #[vl, v] w fun e w' => e = .returned (.bool true) ∧ Ch Noone w w' := by
  have hbad : lies.any offB = false := List.any_eq_false.2 fun x hx => by
    have := hz x hx
    unfold offB
    simp; omega
  obtain ⟨q1, q2, q3, q4, rs, rfl, k1, k2, k3, k4, k5, k6⟩ := hL
  clear k3 k4 k5 k6
  obtain ⟨v1, v2, rfl, s1, s2⟩ := hI
  have S2 := Lib.hid s2
  have l5 : lies.length ≤ 1000 := by have := ok.p1; omega
  obtain ⟨a1, c1, rfl, -, -, -, -⟩ := k1
  obtain ⟨a2, c2, rfl, -, -, -, -⟩ := k2
  obtain ⟨a3, c3, rfl, -, -, -, -⟩ := s1
  obtain ⟨a4, c4, rfl, -, -, -, -⟩ := s2
  rw [ho] at *
  obtain ⟨w0, hw0⟩ : ∃ w0, w0 = (w.alloc (.cells #[.slice a1 L.secs.length c1, .slice a2 L.pts.length c2, q3, q4] 26)).alloc (.cells #[.slice a3 L.secs.length c3, .slice a4 lies.length c4] 133) := ⟨_, rfl⟩
  have c0 : Ch Noone w w0 := by rw [hw0]; exact ((Ch.refl _ _).alloc _).alloc _
  have HC := Lib.hid (containsFunc_may1 B w0 _ lies offB (S2.out.ch0 c0) l5 (fun w' x hx c => mayIn1_any w' x))
  rw [hbad] at HC
  have C0 := Lib.hid c0
  have HW0 := Lib.hid hw0
  rw [hl] at *
  clear hz hbad ok c0 hw0 hl ho
  go_enter Tryz.func147, Tryz.ntmps147
  go_wp2_with fail
  rw [← HW0.out]
  refine HC.out.mono ?_
  rintro e w1 ⟨rfl, c1⟩
  go_wp2_with fail
  go_ret
  exact ⟨rfl, C0.out.trans c1⟩
end Go.Proofs.YtkplgggdidhnoaaGreatDoor

namespace Go.Proofs.YtkplgggdidhnoaaGreatDoor
open Go.ChangeShapes Go.WideShapes Go.ChangeAt Go.RowKit
set_option linter.unusedVariables false

/-- What a Lock's cells hold of route r. -/
structure LockR (O : Nat → Prop) (w : World) (b : Nat) (L : Lay) (rs : List RS) (r : Nat) (x : RS) (R : Route) (v1 v2 v3 : Value) (b4 o4 c4 g c5 : Nat) (pa : Option Addr) (pc : Nat) : Prop where
  blk : Blk w b 95 #[v1, v2, v3, .slice (some ⟨b4, o4, none⟩) rs.length c4, .slice (some ⟨g, 0, none⟩) rs.length c5]
  k4 : rs.length ≤ c4
  k5 : rs.length ≤ c5
  ob : O b
  og : O g
  gb : g ≠ b
  o4' : O b4
  b4b : b4 ≠ b
  b4g : b4 ≠ g
  l4 : b4 < w.heap.size
  lg : g < w.heap.size
  rc : w.cell? ⟨b4, o4 + r * 6, none⟩ = some (.string R.name) ∧ w.cell? ⟨b4, o4 + r * 6 + 1, none⟩ = some (.int .i64 R.frm) ∧ w.cell? ⟨b4, o4 + r * 6 + 2, none⟩ = some (.int .i64 R.to) ∧ w.cell? ⟨b4, o4 + r * 6 + 3, none⟩ = some (.slice pa R.path.length pc)
  path : Sl (fun k => O k ∧ k ≠ b ∧ k ≠ g) w (.slice pa R.path.length pc) R.path.length (R.path.flatMap fInt)
  xc : w.cell? ⟨g, r * 4, none⟩ = some (.int .i64 x.mode) ∧ w.cell? ⟨g, r * 4 + 1, none⟩ = some (.int .i64 x.timer) ∧ w.cell? ⟨g, r * 4 + 2, none⟩ = some (.int .i64 x.gone) ∧ w.cell? ⟨g, r * 4 + 3, none⟩ = some (.bool x.seen)
  lay : LayAt (fun k => O k ∧ k ≠ b ∧ k ≠ g) w (.agg #[v1, v2, v3, .slice (some ⟨b4, o4, none⟩) rs.length c4]) L
  own : Own (fun k => O k ∧ k ≠ b) w 168 4 (.slice (some ⟨g, 0, none⟩) rs.length c5) rs.length (rs.flatMap fRS)

theorem LockAt.at {O : Nat → Prop} {w : World} {b : Nat} {L : Lay} {rs : List RS} (h : LockAt O w b L rs) {r : Nat} (hr : r < rs.length) (hr' : r < L.routes.length) :
    ∃ v1 v2 v3 b4 o4 c4 g c5 pa pc, LockR O w b L rs r rs[r] L.routes[r] v1 v2 v3 b4 o4 c4 g c5 pa pc := by
  obtain ⟨h0, h1, v1, v2, v3, v4, v5, h2, h3, h4⟩ := h
  obtain ⟨b4, o4, c4, u1, u2, u3, e4, k4, hb4, l4, a0, a1, a2, a3, -, -, x1, -, -⟩ := h3.route hr'
  rw [← h1.len] at e4 k4
  obtain ⟨pa, pc, e1, -, -, -, -⟩ := id x1
  subst e1 e4
  have ho := h4
  obtain ⟨h5, h6⟩ := h4
  rcases h6 with ⟨_, h6⟩ | ⟨g, c5, cur, e5, hg, hh, k5, hm, hs, ht⟩
  · omega
  · subst e5
    have hat : ∀ j, j < 4 → w.cell? ⟨g, r * 4 + j, none⟩ = (fRS rs[r])[j]? := fun j hj => by
      obtain ⟨b', off, e, -, -, hat⟩ := ho.sl.at (f := fRS) (C := 4) (fun _ => rfl) (by omega) hr
      simp only [Option.some.injEq, Addr.mk.injEq, and_true] at e
      obtain ⟨rfl, rfl⟩ := e
      have := hat j hj
      rwa [Nat.zero_add] at this
    simp only [Value.ownBlock, ne_eq, Option.some.injEq] at hb4 x1 h3
    exact ⟨v1, v2, v3, b4, o4, c4, g, c5, pa, pc, h2, k4, k5, h0, hg.1, hg.2, hb4.1, hb4.2.1, fun e => hb4.2.2 e.symm, l4, lt_of_heap hh, ⟨a0, a1, a2, a3⟩, x1.mono fun k hk _ => ⟨hk.1, hk.2.1, fun e => hk.2.2 e.symm⟩, ⟨hat 0 (by omega), hat 1 (by omega), hat 2 (by omega), hat 3 (by omega)⟩, h3.mono fun k hk _ => ⟨hk.1, hk.2.1, fun e => hk.2.2 e.symm⟩, ho⟩

theorem Sl.drop {B : Nat → Prop} {w : World} {b off n cap : Nat} {xs : List Int} (h : Sl B w (.slice (some ⟨b, off, none⟩) n cap) n (xs.flatMap fInt)) (hx : xs.length = n) {k : Nat} (hk : k < n) :
    Sl B w (.slice (some ⟨b, off + k, none⟩) (n - k) (cap - k)) (n - k) ((xs.drop k).flatMap fInt) := by
  obtain ⟨ao, cap', e, h1, h2, h3, h4⟩ := h
  simp only [Value.slice.injEq] at e
  obtain ⟨rfl, -, rfl⟩ := e
  have hl : (xs.flatMap fInt).length = xs.length := by rw [flat_length fInt 1 (fun _ => rfl)]; omega
  obtain ⟨b', o', e', hB, hlt, hat⟩ := h4 (by intro h; rw [h] at hl; simp at hl; omega)
  simp only [Option.some.injEq, Addr.mk.injEq, and_true] at e'
  obtain ⟨rfl, rfl⟩ := e'
  refine ⟨_, _, rfl, by omega, by omega, (fun h => by cases h), fun _ => ⟨b, off + k, rfl, hB, hlt, fun i hi => ?_⟩⟩
  have hd : (xs.drop k).flatMap fInt = (xs.flatMap fInt).drop k := by
    have : ∀ l : List Int, l.flatMap fInt = l.map (Value.int .i64) := fun l => by induction l with
      | nil => rfl
      | cons x l ih => simp [List.flatMap_cons, fInt, ih]
    rw [this, this, List.map_drop]
  rw [hd, List.getElem?_drop, Nat.add_assoc]
  rw [hd, List.length_drop] at hi
  exact hat (k + i) (by omega)

set_option maxRecDepth 100000 in
set_option maxHeartbeats 4000000 in
theorem held_any (O : Nat → Prop) (w : World) (b : Nat) (L : Lay) (rs : List RS) (r : Nat) (h : LockAt O w b L rs) (ok : LayOk L) (hr : r < rs.length) :
    Calls Tryz.prog 167 #[.pointer (some ⟨b, 0, none⟩), .int .i64 r] w fun e w' => ∃ v xs, e = .returned v ∧ Sl O w' v xs.length (xs.flatMap fInt) ∧ xs.length ≤ 100 ∧ (rs[r].mode = 0 → xs = []) ∧ Ch Noone w w' := by
  have hr' : r < L.routes.length := by rw [← h.2.1.len]; exact hr
  have hx := h.2.1.ok r hr hr'
  have hpl := (ok.route _ (List.getElem_mem hr')).path.2.2.2
  obtain ⟨v1, v2, v3, b4, o4, c4, g, c5, pa, pc, H⟩ := h.at hr hr'
  have HS : Hid (∀ W', Ch Noone w W' → W'.cell? ⟨b, 3, none⟩ = some (.slice (some ⟨b4, o4, none⟩) rs.length c4) ∧ W'.cell? ⟨b, 4, none⟩ = some (.slice (some ⟨g, 0, none⟩) rs.length c5) ∧ W'.cell? ⟨b4, o4 + r * 6 + 3, none⟩ = some (.slice pa L.routes[r].path.length pc) ∧
      W'.cell? ⟨g, r * 4, none⟩ = some (.int .i64 rs[r].mode) ∧ W'.cell? ⟨g, r * 4 + 1, none⟩ = some (.int .i64 rs[r].timer) ∧ W'.cell? ⟨g, r * 4 + 2, none⟩ = some (.int .i64 rs[r].gone) ∧ W'.cell? ⟨g, r * 4 + 3, none⟩ = some (.bool rs[r].seen)) := fun W' c =>
    ⟨(c.blk H.blk (fun h => h)).cell 3, (c.blk H.blk (fun h => h)).cell 4, (c.rd H.l4 _).trans H.rc.2.2.2, (c.rd H.lg _).trans H.xc.1, (c.rd H.lg _).trans H.xc.2.1, (c.rd H.lg _).trans H.xc.2.2.1, (c.rd H.lg _).trans H.xc.2.2.2⟩
  have HP := Lib.hid H.path
  have k4 := H.k4
  have k5 := H.k5
  have HX : Hid (rs[r].mode = 3 → 0 ≤ rs[r].gone ∧ rs[r].gone < L.routes[r].path.length) := hx.2.2
  clear h ok H hx
  generalize L.routes[r].path = p at *
  generalize rs[r] = x at *
  have hr0 : (0 : Int) ≤ r := by omega
  have hr1 : (r : Int) < rs.length := by omega
  obtain ⟨xm, xt, xg, xs⟩ := x
  dsimp only at *
  rcases (show xm = 1 ∨ xm = 2 ∨ xm = 4 ∨ xm = 3 ∨ (xm ≠ 1 ∧ xm ≠ 2 ∧ xm ≠ 4 ∧ xm ≠ 3) by omega) with e | e | e | e | ⟨e1, e2, e4, e3⟩
  · subst e
    go_enter Tryz.func167, Tryz.ntmps167
    go_wp2_with fail
    go_region_held3 (fun W' => W'.cell? ⟨b, 3, none⟩ = some (.slice (some ⟨b4, o4, none⟩) rs.length c4) ∧ W'.cell? ⟨b, 4, none⟩ = some (.slice (some ⟨g, 0, none⟩) rs.length c5) ∧ W'.cell? ⟨b4, o4 + r * 6 + 3, none⟩ = some (.slice pa p.length pc) ∧
        W'.cell? ⟨g, r * 4, none⟩ = some (.int .i64 1) ∧ W'.cell? ⟨g, r * 4 + 1, none⟩ = some (.int .i64 xt) ∧ W'.cell? ⟨g, r * 4 + 2, none⟩ = some (.int .i64 xg) ∧ W'.cell? ⟨g, r * 4 + 3, none⟩ = some (.bool xs))
      ((refine HS.out _ ?_; repeat (first | exact Ch.refl _ _ | apply Ch.drew | apply Ch.alloc | (refine Ch.set ?_ (fun h => absurd h (by simp)) _ _)))) (fail)
    all_goals
      go_wp2_with fail
      go_ret
      exact ⟨_, p, rfl, (HP.out.mono fun k hk _ => hk.1).ch0 ((Ch.refl _ _).alloc _).drew, by omega, fun h => absurd h (by decide), ((Ch.refl _ _).alloc _).drew⟩
  · subst e
    go_enter Tryz.func167, Tryz.ntmps167
    go_wp2_with fail
    go_region_held3 (fun W' => W'.cell? ⟨b, 3, none⟩ = some (.slice (some ⟨b4, o4, none⟩) rs.length c4) ∧ W'.cell? ⟨b, 4, none⟩ = some (.slice (some ⟨g, 0, none⟩) rs.length c5) ∧ W'.cell? ⟨b4, o4 + r * 6 + 3, none⟩ = some (.slice pa p.length pc) ∧
        W'.cell? ⟨g, r * 4, none⟩ = some (.int .i64 2) ∧ W'.cell? ⟨g, r * 4 + 1, none⟩ = some (.int .i64 xt) ∧ W'.cell? ⟨g, r * 4 + 2, none⟩ = some (.int .i64 xg) ∧ W'.cell? ⟨g, r * 4 + 3, none⟩ = some (.bool xs))
      ((refine HS.out _ ?_; repeat (first | exact Ch.refl _ _ | apply Ch.drew | apply Ch.alloc | (refine Ch.set ?_ (fun h => absurd h (by simp)) _ _)))) (fail)
    all_goals
      go_wp2_with fail
      go_ret
      exact ⟨_, p, rfl, (HP.out.mono fun k hk _ => hk.1).ch0 ((Ch.refl _ _).alloc _).drew, by omega, fun h => absurd h (by decide), ((Ch.refl _ _).alloc _).drew⟩
  · subst e
    go_enter Tryz.func167, Tryz.ntmps167
    go_wp2_with fail
    go_region_held3 (fun W' => W'.cell? ⟨b, 3, none⟩ = some (.slice (some ⟨b4, o4, none⟩) rs.length c4) ∧ W'.cell? ⟨b, 4, none⟩ = some (.slice (some ⟨g, 0, none⟩) rs.length c5) ∧ W'.cell? ⟨b4, o4 + r * 6 + 3, none⟩ = some (.slice pa p.length pc) ∧
        W'.cell? ⟨g, r * 4, none⟩ = some (.int .i64 4) ∧ W'.cell? ⟨g, r * 4 + 1, none⟩ = some (.int .i64 xt) ∧ W'.cell? ⟨g, r * 4 + 2, none⟩ = some (.int .i64 xg) ∧ W'.cell? ⟨g, r * 4 + 3, none⟩ = some (.bool xs))
      ((refine HS.out _ ?_; repeat (first | exact Ch.refl _ _ | apply Ch.drew | apply Ch.alloc | (refine Ch.set ?_ (fun h => absurd h (by simp)) _ _)))) (fail)
    all_goals
      go_wp2_with fail
      go_ret
      exact ⟨_, p, rfl, (HP.out.mono fun k hk _ => hk.1).ch0 ((Ch.refl _ _).alloc _).drew, by omega, fun h => absurd h (by decide), ((Ch.refl _ _).alloc _).drew⟩
  · subst e
    obtain ⟨g0, g1⟩ := HX.out rfl
    obtain ⟨k, rfl⟩ : ∃ k : Nat, xg = k := ⟨xg.toNat, by omega⟩
    have hk : k < p.length := by have : (k : Int) < p.length := g1; omega
    obtain ⟨pb, po, rfl, -, -, -⟩ := HP.out.at (f := fInt) (C := 1) (fun _ => rfl) (by omega) hk
    obtain ⟨pa', pc', e', hpc, hcm, -, -⟩ := id HP.out
    simp only [Value.slice.injEq, true_and] at e'
    obtain ⟨-, rfl⟩ := e'
    have hk0 : (0 : Int) ≤ k := by omega
    have hk1 : (k : Int) ≤ p.length := by omega
    have HC := Lib.hid hcm
    clear hcm g0 g1
    go_enter Tryz.func167, Tryz.ntmps167
    go_wp2_with fail
    go_region_held3 (fun W' => W'.cell? ⟨b, 3, none⟩ = some (.slice (some ⟨b4, o4, none⟩) rs.length c4) ∧ W'.cell? ⟨b, 4, none⟩ = some (.slice (some ⟨g, 0, none⟩) rs.length c5) ∧ W'.cell? ⟨b4, o4 + r * 6 + 3, none⟩ = some (.slice (some ⟨pb, po, none⟩) p.length pc) ∧
        W'.cell? ⟨g, r * 4, none⟩ = some (.int .i64 3) ∧ W'.cell? ⟨g, r * 4 + 1, none⟩ = some (.int .i64 xt) ∧ W'.cell? ⟨g, r * 4 + 2, none⟩ = some (.int .i64 k) ∧ W'.cell? ⟨g, r * 4 + 3, none⟩ = some (.bool xs))
      ((refine HS.out _ ?_; repeat (first | exact Ch.refl _ _ | apply Ch.drew | apply Ch.alloc | (refine Ch.set ?_ (fun h => absurd h (by simp)) _ _)))) (fail)
    all_goals
      go_wp2_with fail
      go_ret
      have hd := (Sl.drop HP.out rfl hk).mono (B' := O) fun k hk _ => hk.1
      exact ⟨_, p.drop k, rfl, by rw [List.length_drop]; exact hd.ch0 ((Ch.refl _ _).alloc _).drew, by rw [List.length_drop]; omega, fun h => absurd h (by decide), ((Ch.refl _ _).alloc _).drew⟩
  · have e1' : (xm == 1) = false := by simpa using e1
    have e2' : (xm == 2) = false := by simpa using e2
    have e3' : (xm == 3) = false := by simpa using e3
    have e4' : (xm == 4) = false := by simpa using e4
    clear e1 e2 e3 e4
    go_enter Tryz.func167, Tryz.ntmps167
    go_wp2_with fail
    go_region_held3 (fun W' => W'.cell? ⟨b, 3, none⟩ = some (.slice (some ⟨b4, o4, none⟩) rs.length c4) ∧ W'.cell? ⟨b, 4, none⟩ = some (.slice (some ⟨g, 0, none⟩) rs.length c5) ∧ W'.cell? ⟨b4, o4 + r * 6 + 3, none⟩ = some (.slice pa p.length pc) ∧
        W'.cell? ⟨g, r * 4, none⟩ = some (.int .i64 xm) ∧ W'.cell? ⟨g, r * 4 + 1, none⟩ = some (.int .i64 xt) ∧ W'.cell? ⟨g, r * 4 + 2, none⟩ = some (.int .i64 xg) ∧ W'.cell? ⟨g, r * 4 + 3, none⟩ = some (.bool xs))
      ((refine HS.out _ ?_; repeat (first | exact Ch.refl _ _ | apply Ch.drew | apply Ch.alloc | (refine Ch.set ?_ (fun h => absurd h (by simp)) _ _)))) (fail)
    all_goals
      go_wp2_with fail
      go_ret
      exact ⟨_, [], rfl, Sl.nil _ _, by simp, fun h => rfl, ((Ch.refl _ _).alloc _).drew⟩

/-- All routes are Idle. -/
def AllIdle (rs : List RS) : Prop := ∀ x ∈ rs, x.mode = 0

set_option maxRecDepth 100000 in
set_option maxHeartbeats 4000000 in
theorem holder_any (O : Nat → Prop) (w : World) (b : Nat) (L : Lay) (rs : List RS) (sec : Int) (h : LockAt O w b L rs) (ok : LayOk L) :
    Calls Tryz.prog 161 #[.pointer (some ⟨b, 0, none⟩), .int .i64 sec] w fun e w' => ∃ n : Int, e = .returned (.int .i64 n) ∧ (n = -1 ∨ ∃ (k : Nat) (hk : k < rs.length), n = k ∧ rs[k].mode ≠ 0) ∧ Ch Noone w w' := by
  obtain ⟨v1, v2, v3, v4, v5, hb, -, h5⟩ := h.blkOf
  have l4 : w.cell? ⟨b, 4, none⟩ = some v5 := hb.cell 4
  obtain ⟨a5, c5, rfl, -, -, -, -⟩ := h5
  have HK := Lib.hid h
  have OK := Lib.hid ok
  have hn : rs.length ≤ 6 := by rw [h.2.1.len]; exact ok.r1
  clear h ok hb
  go_enter Tryz.func161, Tryz.ntmps161
  go_wp2_with fail
  go_loopw [13] (fun i wr => ∃ k : Nat, k ≤ rs.length ∧ i = .int .i64 k ∧ Ch Noone w wr) (fun i _ => (rs.length - intOf i).toNat)
  case atStart => exact ⟨0, by omega, rfl, Ch.refl _ _⟩
  case round =>
    clear l4
    obtain ⟨k, hk, rfl, hch⟩ := hrel
    by_cases hkl : k < rs.length
    · have HH := Lib.hid (held_any O wr b L rs k (HK.out.ch hch (fun _ _ _ h => h)) OK.out hkl)
      go_wp2_with fail
      refine HH.out.mono ?_
      rintro e w1 ⟨v, xs, rfl, hs, hl, hm, c1⟩
      have HM := Lib.hid hm
      have HC := Lib.hid (slcontains_int O w1 v xs sec hs (by omega))
      clear hm hs
      go_wp2_with fail
      refine HC.out.mono ?_
      rintro e w2 ⟨rfl, rfl⟩
      have HX : Hid ((xs.any fun y => sec == y) = true → rs[k].mode ≠ 0) := fun h e => by
        rw [HM.out e] at h; simp at h
      generalize (xs.any fun y => sec == y) = t at *
      cases t
      · go_wp2_with fail
        go_roundw
        case rel => exact ⟨k + 1, by omega, by go_num, hch.trans c1⟩
        case measure => simp [intOf]; omega
      · have HX' := Lib.hid (HX.out rfl)
        go_wp2_with fail
        go_ret
        exact ⟨k, rfl, .inr ⟨k, hkl, rfl, HX'.out⟩, hch.trans c1⟩
    · go_wp2_with fail
      go_ret
      exact ⟨-1, rfl, .inl rfl, hch⟩
end Go.Proofs.YtkplgggdidhnoaaGreatDoor
