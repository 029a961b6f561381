/-
  pointsmanref4.route: a route that is told to be one may be. Condition: the layout has no more than it may. pointsmanref4.Is: a layout of too many or too few is told to be none. Conditions: the names have at most 60000 bytes, and the tables of unicode/utf8 lie as its text lays them. pointsmanref4.Is: a layout that is told to be one may be. Conditions: the names have at most 60000 bytes, and the tables of unicode/utf8 lie as its text lays them.
-/
import Derived.Test.YtkplgggdidhnoaaGreatDoorM08
import Derived.Test.YtkplgggdidhnoaaGreatDoorM03
namespace Go.Proofs.YtkplgggdidhnoaaGreatDoor
open Go.ChangeShapes Go.WideShapes Go.ChangeAt Go.RowKit
set_option linter.unusedVariables false

/-- The first so many sections of a path may be. -/
def PathTo (L : Lay) (p : List Int) (k : Nat) : Prop :=
  (∀ (i : Nat) (h : i < p.length), i < k → 0 ≤ p[i] ∧ p[i] < L.secs.length) ∧ ∀ (i j : Nat) (hi : i < p.length) (hj : j < p.length), i < j → j < k → (p[j] == p[i]) = false
theorem PathTo.step {L : Lay} {p : List Int} {k : Nat} (h : PathTo L p k) (hk : k < p.length) (h0 : 0 ≤ p[k]) (h1 : p[k] < L.secs.length) (h2 : hasB (p.take k) p[k] = false) : PathTo L p (k + 1) :=
  ⟨fun i hi hk' => by
    by_cases e : i = k
    · subst e; exact ⟨h0, h1⟩
    · exact h.1 i hi (by omega), fun i j hi hj hij hjk => by
    by_cases e : j = k
    · subst e
      unfold hasB at h2
      have := List.any_eq_false.1 h2 p[i] (by rw [List.mem_take_iff_getElem]; exact ⟨i, by omega, rfl⟩)
      simpa using this
    · exact h.2 i j hi hj hij (by omega)⟩

set_option maxHeartbeats 8000000 in
set_option maxRecDepth 100000 in
theorem route_go (B : Nat → Prop) (w : World) (v : Value) (L : Lay) (x : Route × Value × Value × Value) (hL : LayAt B w v L) (hx : SlR B w x) (hs : L.secs.length ≤ 10) (hs2 : L.pts.length ≤ 5) (hs3 : L.sigs.length ≤ 6)
    (f0 : 0 ≤ x.1.frm) (f1 : x.1.frm < L.sigs.length) (t0 : 0 ≤ x.1.to) (t1 : x.1.to < L.sigs.length) (ne : x.1.frm ≠ x.1.to) (l0 : 1 ≤ x.1.path.length) (l1 : x.1.path.length ≤ 5) :
    Calls Tryz.prog 41 #[v, .agg #[.string x.1.name, .int .i64 x.1.frm, .int .i64 x.1.to, x.2.1, x.2.2.1, x.2.2.2]] w fun r w' => ∃ b, r = .returned (.bool b) ∧ (b = true → RouteOk L x.1) ∧ Ch Noone w w' := by
  have HX := Lib.hid hx; clear hx
  have HL := Lib.hid hL
  obtain ⟨v1, v2, v3, v4, rs, rfl, h1, h2, h3, h4, h5, h6⟩ := hL
  have H2 := Lib.hid h2
  clear h4 h6
  obtain ⟨a1, c1, rfl, -, -, -, -⟩ := h1
  obtain ⟨a2, c2, rfl, -, -, -, -⟩ := h2
  obtain ⟨a3, c3, rfl, -, -, -, -⟩ := h3
  obtain ⟨a4, c4, rfl, -, -, -, -⟩ := h5
  obtain ⟨rt, vp, vn, vf⟩ := x
  dsimp only at *
  have HV : Hid ((∃ a c, vp = .slice a rt.path.length c ∧ rt.path.length ≤ c ∧ c ≤ 9223372036854775807) ∧ (∃ a c, vn = .slice a rt.pts.length c)) := by
    obtain ⟨⟨a, c, e, e1, e2, _⟩, ⟨a', c', e', _⟩, _⟩ := HX.out
    exact ⟨⟨a, c, e, e1, e2⟩, ⟨a', c', e'⟩⟩
  obtain ⟨⟨ap, cp, rfl, cp1, cp2⟩, ⟨an, cn, rfl⟩⟩ := HV.out
  have HCp := Lib.hid cp2; clear cp2
  clear HV
  have B0 : Blk ((w.alloc (.cells #[.slice a1 L.secs.length c1, .slice a2 L.pts.length c2, .slice a3 L.sigs.length c3, .slice a4 rs.length c4] 26)).alloc (.cells #[.string rt.name, .int .i64 rt.frm, .int .i64 rt.to, .slice ap rt.path.length cp, .slice an rt.pts.length cn, vf] 54)) w.heap.size 26 #[.slice a1 L.secs.length c1, .slice a2 L.pts.length c2, .slice a3 L.sigs.length c3, .slice a4 rs.length c4] := (Blk.new _ _ _).alloc _
  have R0 : Blk ((w.alloc (.cells #[.slice a1 L.secs.length c1, .slice a2 L.pts.length c2, .slice a3 L.sigs.length c3, .slice a4 rs.length c4] 26)).alloc (.cells #[.string rt.name, .int .i64 rt.frm, .int .i64 rt.to, .slice ap rt.path.length cp, .slice an rt.pts.length cn, vf] 54)) (w.heap.size + 1) 54 #[.string rt.name, .int .i64 rt.frm, .int .i64 rt.to, .slice ap rt.path.length cp, .slice an rt.pts.length cn, vf] := by
    have := Blk.new (w.alloc (.cells #[.slice a1 L.secs.length c1, .slice a2 L.pts.length c2, .slice a3 L.sigs.length c3, .slice a4 rs.length c4] 26)) 54 #[.string rt.name, .int .i64 rt.frm, .int .i64 rt.to, .slice ap rt.path.length cp, .slice an rt.pts.length cn, vf]
    simpa using this
  have C0 : Ch Noone w ((w.alloc (.cells #[.slice a1 L.secs.length c1, .slice a2 L.pts.length c2, .slice a3 L.sigs.length c3, .slice a4 rs.length c4] 26)).alloc (.cells #[.string rt.name, .int .i64 rt.frm, .int .i64 rt.to, .slice ap rt.path.length cp, .slice an rt.pts.length cn, vf] 54)) := ((Ch.refl _ _).alloc _).alloc _
  have ne' : (rt.frm == rt.to) = false := by simpa using ne
  have HNe := Lib.hid ne; clear ne
  go_enter Tryz.func41, Tryz.ntmps41
  go_wp2_with fail
  go_loopw [5] (fun i wr => ∃ k : Nat, k ≤ rt.path.length ∧ i = .int .i64 k ∧ Ch Noone w wr ∧
    Blk wr w.heap.size 26 #[.slice a1 L.secs.length c1, .slice a2 L.pts.length c2, .slice a3 L.sigs.length c3, .slice a4 rs.length c4] ∧ Blk wr (w.heap.size + 1) 54 #[.string rt.name, .int .i64 rt.frm, .int .i64 rt.to, .slice ap rt.path.length cp, .slice an rt.pts.length cn, vf] ∧ PathTo L rt.path k) (fun i _ => (rt.path.length - intOf i).toNat)
  case atStart => exact ⟨0, by omega, rfl, C0, B0, R0, fun i _ h => by omega, fun i j _ _ _ h => by omega⟩
  case round =>
    clear C0 B0 R0
    obtain ⟨k, hk, rfl, hch, hb, hr, hto⟩ := hrel
    have HTo := Lib.hid hto; clear hto
    have l0' := hb.cell 0
    have r3 := hr.cell 3
    simp only [List.getElem?_toArray, List.getElem?_cons_zero, List.getElem?_cons_succ] at l0' r3
    by_cases hkl : k < rt.path.length
    · have HSl := Lib.hid (HX.out.1.ch0 hch)
      obtain ⟨b, off, rfl, -, -, hat⟩ := HSl.out.at (f := fInt) (C := 1) (fun _ => rfl) (by omega) hkl
      have y0 : wr.cell? ⟨b, off + k, none⟩ = some (.int .i64 rt.path[k]) := by have := hat 0 (by omega); rw [Nat.mul_one] at this; exact this
      clear hat
      have HSt := Lib.hid (fun h0 h1 h2 => HTo.out.step hkl h0 h1 h2)
      have hk0 : (0 : Int) ≤ k := by omega
      have hkc : (k : Int) ≤ cp := by omega
      have HIn : Hid (∀ m, Calls Tryz.prog 76 #[.slice (some ⟨b, off, none⟩) k cp, .int .i64 rt.path[k]] (wr.drewN m) fun r w' => r = .returned (.bool (hasB (rt.path.take k) rt.path[k])) ∧ w' = wr.drewN m) := fun m => by
        have hlen : (rt.path.take k).length = k := by simp; omega
        exact in_any B (wr.drewN m) _ (rt.path.take k) rt.path[k] (by rw [hlen]; exact Sl.take (f := fInt) (C := 1) (fun _ => rfl) (HSl.out.ch0 ((Ch.refl _ _).drewN m)) rfl (Nat.le_of_lt hkl)) (by omega)
      by_cases x0 : 0 ≤ rt.path[k]
      · by_cases x1 : rt.path[k] < L.secs.length
        · have HX0 := Lib.hid x0
          have HX1 := Lib.hid x1
          have hd1 : decide (rt.path[k] < 0) = false := by simp; omega
          have hd2 : decide ((L.secs.length : Int) ≤ rt.path[k]) = false := by simp; omega
          cases hh : hasB (rt.path.take k) rt.path[k] with
          | false =>
            rw [hh] at HIn
            have HH := Lib.hid hh; clear hh
            generalize rt.path[k] = y at *
            go_wp2_with fail
            go_big_quiet ((go_at_call 76; with_reducible refine Calls.quiet_of_same (HIn.out _)))
            go_wp2_with fail
            go_roundw
            case rel => exact ⟨k + 1, by omega, by go_num, hch.drewN _, hb, hr, HSt.out HX0.out HX1.out HH.out⟩
            case measure => simp [intOf]; omega
          | true =>
            rw [hh] at HIn
            have HH := Lib.hid hh; clear hh
            generalize rt.path[k] = y at *
            go_wp2_with fail
            go_big_quiet ((go_at_call 76; with_reducible refine Calls.quiet_of_same (HIn.out _)))
            go_wp2_with fail
            go_ret
            first | exact ⟨_, rfl, fun h => (by cases h), hch.drewN _⟩ | exact .inl ⟨rfl, hch.drewN _⟩ | exact ⟨_, rfl, fun h => (by cases h), hch⟩ | exact .inl ⟨rfl, hch⟩
        · have hd1 : decide (rt.path[k] < 0) = false := by simp; omega
          have hd2 : decide ((L.secs.length : Int) ≤ rt.path[k]) = true := by simp; omega
          clear x1
          generalize rt.path[k] = y at *
          go_wp2_with fail
          go_big_quiet (fail)
          go_wp2_with fail
          go_ret
          first | exact ⟨_, rfl, fun h => (by cases h), hch.drewN _⟩ | exact .inl ⟨rfl, hch.drewN _⟩ | exact ⟨_, rfl, fun h => (by cases h), hch⟩ | exact .inl ⟨rfl, hch⟩
      · have hd1 : decide (rt.path[k] < 0) = true := by simp; omega
        clear x0
        generalize rt.path[k] = y at *
        go_wp2_with fail
        go_big_quiet (fail)
        go_wp2_with fail
        go_ret
        first | exact ⟨_, rfl, fun h => (by cases h), hch.drewN _⟩ | exact .inl ⟨rfl, hch.drewN _⟩ | exact ⟨_, rfl, fun h => (by cases h), hch⟩ | exact .inl ⟨rfl, hch⟩
    · have HPo : Hid (PathOk L rt.path) := ⟨fun y hy => by
          obtain ⟨i, hi, rfl⟩ := List.getElem_of_mem hy
          exact HTo.out.1 i hi (by omega), fun i j hi hj h => HTo.out.2 i j hi hj h (by omega), l0, l1⟩
      go_wp2_with fail
      clear l0' r3 hk hkl
      go_loopw [6, 7] (fun q i wr => ∃ k : Nat, k ≤ L.pts.length ∧ i = .int .i64 k ∧ q = .int .i64 (countB (L.pts.take k) rt.path) ∧ Ch Noone w wr ∧
        Blk wr w.heap.size 26 #[.slice a1 L.secs.length c1, .slice a2 L.pts.length c2, .slice a3 L.sigs.length c3, .slice a4 rs.length c4] ∧ Blk wr (w.heap.size + 1) 54 #[.string rt.name, .int .i64 rt.frm, .int .i64 rt.to, .slice ap rt.path.length cp, .slice an rt.pts.length cn, vf]) (fun _ i _ => (L.pts.length - intOf i).toNat)
      case atStart => exact ⟨0, by omega, rfl, rfl, hch, hb, hr⟩
      case round =>
        clear hch hb hr HTo
        obtain ⟨k, hk, rfl, rfl, hch, hb, hr⟩ := hrel
        have l1' := hb.cell 1
        have r3 := hr.cell 3
        simp only [List.getElem?_toArray, List.getElem?_cons_zero, List.getElem?_cons_succ] at l1' r3
        have hle := count_le L.pts rt.path k
        by_cases hkl : k < L.pts.length
        · obtain ⟨b2, off2, rfl, -, -, hat2⟩ := (H2.out.ch0 hch).at (f := fPnt) (C := 2) (fun _ => rfl) (by omega) hkl
          have z1 : wr.cell? ⟨b2, off2 + k * 2 + 1, none⟩ = some (.int .i64 L.pts[k].sec) := hat2 1 (by omega)
          clear hat2
          have HIn : Hid (∀ m, Calls Tryz.prog 76 #[.slice ap rt.path.length cp, .int .i64 L.pts[k].sec] (wr.drewN m) fun r w' => r = .returned (.bool (hasB rt.path L.pts[k].sec)) ∧ w' = wr.drewN m) := fun m =>
            in_any B (wr.drewN m) _ rt.path L.pts[k].sec (HX.out.1.ch0 (hch.drewN m)) (by omega)
          have HTk := Lib.hid (count_take L.pts rt.path k hkl)
          have hk0 : (0 : Int) ≤ k := by omega
          have hkl' : (k : Int) < L.pts.length := by omega
          cases hh : hasB rt.path L.pts[k].sec with
          | true =>
            rw [hh] at HIn
            have HH := Lib.hid hh; clear hh
            generalize L.pts[k] = y at *
            go_wp2_with fail
            go_big_quiet ((go_at_call 76; with_reducible refine Calls.quiet_of_same (HIn.out _)))
            go_wp2_with fail
            go_roundw
            case rel => exact ⟨k + 1, by omega, by go_num, by rw [HTk.out, if_pos HH.out]; go_num, hch.drewN _, hb, hr⟩
            case measure => simp [intOf]; omega
          | false =>
            rw [hh] at HIn
            have HH := Lib.hid hh; clear hh
            generalize L.pts[k] = y at *
            go_wp2_with fail
            go_big_quiet ((go_at_call 76; with_reducible refine Calls.quiet_of_same (HIn.out _)))
            go_wp2_with fail
            go_roundw
            case rel => exact ⟨k + 1, by omega, by go_num, by rw [HTk.out, if_neg (by rw [HH.out]; simp)]; go_num, hch.drewN _, hb, hr⟩
            case measure => simp [intOf]; omega
        · have HCn : Hid (countB (L.pts.take k) rt.path = countB L.pts rt.path) := by unfold Hid; rw [List.take_of_length_le (by omega)]
          have l0'' := hb.cell 0
          have l2'' := hb.cell 2
          have l3'' := hb.cell 3
          have r4 := hr.cell 4
          have r5 := hr.cell 5
          simp only [List.getElem?_toArray, List.getElem?_cons_zero, List.getElem?_cons_succ] at l0'' l2'' l3'' r4 r5
          have HB := Lib.hid hb; clear hb
          have HRr := Lib.hid hr; clear hr
          by_cases hc : (rt.pts.length : Int) = countB (L.pts.take k) rt.path
          · have hc' : ((rt.pts.length : Int) == (countB (L.pts.take k) rt.path : Int)) = true := by simpa using hc
            have HCt : Hid (countB L.pts rt.path = rt.pts.length) := by have := HCn.out; unfold Hid; omega
            have HC := Lib.hid hc; clear hc
            have HN1 := Lib.hid (needs_ref B wr _ _ _ L rt.pts rt.path true (HL.out.ch0 hch) (HX.out.2.1.ch0 hch) (HX.out.1.ch0 hch) (by omega) hs2)
            go_wp2_with fail
            refine HN1.out.mono ?_
            rintro e w1 ⟨b1, rfl, hb1, ch1⟩
            have HB1 := Lib.hid hb1; clear hb1
            cases b1 with
            | false =>
              go_wp2_with fail
              go_ret
              first | exact ⟨_, rfl, fun h => (by cases h), hch.trans ch1⟩ | exact .inl ⟨rfl, hch.trans ch1⟩
            | true =>
              have HN2 := Lib.hid (needs_ref B w1 _ _ _ L rt.flank rt.path false (HL.out.ch0 (hch.trans ch1)) (HX.out.2.2.ch0 (hch.trans ch1)) (HX.out.1.ch0 (hch.trans ch1)) (by omega) hs2)
              have hb := ch1.blk HB.out (fun h => h)
              have hr := ch1.blk HRr.out (fun h => h)
              clear l1' r3 l0'' l2'' l3'' r4 r5
              have l0' := hb.cell 0
              have l1' := hb.cell 1
              have l2' := hb.cell 2
              have l3' := hb.cell 3
              have r3 := hr.cell 3
              have r5 := hr.cell 5
              simp only [List.getElem?_toArray, List.getElem?_cons_zero, List.getElem?_cons_succ] at l0' l1' l2' l3' r3 r5
              clear hb hr
              go_wp2_with fail
              refine HN2.out.mono ?_
              rintro e w2 ⟨b2, rfl, hb2, ch2⟩
              have HB2 := Lib.hid hb2; clear hb2
              go_wp2_with fail
              go_ret
              refine ⟨b2, ?_, fun h => ⟨f0, f1, t0, t1, HNe.out, HPo.out, HB1.out (by trivial), HB2.out h, HCt.out⟩, (hch.trans ch1).trans ch2⟩
              simp
          · have hc' : ((rt.pts.length : Int) == (countB (L.pts.take k) rt.path : Int)) = false := by simpa using hc
            have HC := Lib.hid hc; clear hc
            go_wp2_with fail
            go_ret
            first | exact ⟨_, rfl, fun h => (by cases h), hch⟩ | exact .inl ⟨rfl, hch⟩

theorem route_ref (B : Nat → Prop) (w : World) (v : Value) (L : Lay) (x : Route × Value × Value × Value) (hL : LayAt B w v L) (hx : SlR B w x) (hs : L.secs.length ≤ 10) (hs2 : L.pts.length ≤ 5) (hs3 : L.sigs.length ≤ 6) :
    Calls Tryz.prog 41 #[v, .agg #[.string x.1.name, .int .i64 x.1.frm, .int .i64 x.1.to, x.2.1, x.2.2.1, x.2.2.2]] w fun r w' => ∃ b, r = .returned (.bool b) ∧ (b = true → RouteOk L x.1) ∧ Ch Noone w w' := by
  by_cases h : 0 ≤ x.1.frm ∧ x.1.frm < L.sigs.length ∧ 0 ≤ x.1.to ∧ x.1.to < L.sigs.length ∧ x.1.frm ≠ x.1.to ∧ 1 ≤ x.1.path.length ∧ x.1.path.length ≤ 5
  · obtain ⟨h1, h2, h3, h4, h5, h6, h7⟩ := h
    exact route_go B w v L x hL hx hs hs2 hs3 h1 h2 h3 h4 h5 h6 h7
  · refine (route_no B w v L x hL hx hs hs2 hs3 h).mono ?_
    rintro e w' ⟨rfl, hc⟩
    exact ⟨false, rfl, fun h => (by cases h), hc⟩
end Go.Proofs.YtkplgggdidhnoaaGreatDoor

namespace Go.Proofs.YtkplgggdidhnoaaGreatDoor
open Go.ChangeShapes Go.WideShapes Go.ChangeAt Go.RowKit
set_option linter.unusedVariables false

set_option maxHeartbeats 4000000 in
set_option maxRecDepth 100000 in
theorem is_no (B : Nat → Prop) (w : World) (v : Value) (L : Lay) (hL : LayAt B w v L)
    (no : ¬ (1 ≤ L.secs.length ∧ L.secs.length ≤ 10 ∧ 1 ≤ L.sigs.length ∧ L.sigs.length ≤ 6 ∧ L.pts.length ≤ 5 ∧ L.routes.length ≤ 6)) :
    Calls Tryz.prog 15 #[v] w fun r w' => r = .returned (.bool false) ∧ Ch Noone w w' := by
  have HL := Lib.hid hL
  obtain ⟨v1, v2, v3, v4, rs, rfl, h1, h2, h3, h4, h5, h6⟩ := hL
  have H1 := Lib.hid h1
  have H2 := Lib.hid h2
  have H3 := Lib.hid h3
  have H5 := Lib.hid h5
  have H6 := Lib.hid h6
  have hrl : rs.length = L.routes.length := by rw [← h4]; simp
  have H4 := Lib.hid h4; clear h4 h6
  obtain ⟨a1, c1, rfl, -, -, -, -⟩ := h1
  obtain ⟨a2, c2, rfl, -, -, -, -⟩ := h2
  obtain ⟨a3, c3, rfl, -, -, -, -⟩ := h3
  obtain ⟨a4, c4, rfl, -, -, -, -⟩ := h5
  rw [← hrl] at no
  have HRL := Lib.hid hrl; clear hrl
  have C0 : Ch Noone w (w.alloc (.cells #[.slice a1 L.secs.length c1, .slice a2 L.pts.length c2, .slice a3 L.sigs.length c3, .slice a4 rs.length c4] 26)) := (Ch.refl _ _).alloc _
  have b0 := Blk.new w 26 #[.slice a1 L.secs.length c1, .slice a2 L.pts.length c2, .slice a3 L.sigs.length c3, .slice a4 rs.length c4]
  have NO := Lib.hid no; clear no
  by_cases s0 : 1 ≤ L.secs.length
  case neg =>
    have s0' : (L.secs.length : Int) < 1 := by omega
    clear s0
    go_enter Tryz.func15, Tryz.ntmps15
    go_wp2_with fail
    go_ret
    exact ⟨rfl, C0⟩
  by_cases s1 : L.secs.length ≤ 10
  case neg =>
    have s1' : 10 < (L.secs.length : Int) := by omega
    clear s1
    go_enter Tryz.func15, Tryz.ntmps15
    go_wp2_with fail
    go_ret
    exact ⟨rfl, C0⟩
  by_cases g0 : 1 ≤ L.sigs.length
  case neg =>
    have g0' : (L.sigs.length : Int) < 1 := by omega
    clear g0
    go_enter Tryz.func15, Tryz.ntmps15
    go_wp2_with fail
    go_ret
    exact ⟨rfl, C0⟩
  by_cases g1 : L.sigs.length ≤ 6
  case neg =>
    have g1' : 6 < (L.sigs.length : Int) := by omega
    clear g1
    go_enter Tryz.func15, Tryz.ntmps15
    go_wp2_with fail
    go_ret
    exact ⟨rfl, C0⟩
  by_cases p1 : L.pts.length ≤ 5
  case neg =>
    have p1' : 5 < (L.pts.length : Int) := by omega
    clear p1
    go_enter Tryz.func15, Tryz.ntmps15
    go_wp2_with fail
    go_ret
    exact ⟨rfl, C0⟩
  by_cases r1 : rs.length ≤ 6
  case neg =>
    have r1' : 6 < (rs.length : Int) := by omega
    clear r1
    go_enter Tryz.func15, Tryz.ntmps15
    go_wp2_with fail
    go_ret
    exact ⟨rfl, C0⟩
  exact absurd ⟨s0, s1, g0, g1, p1, r1⟩ NO.out
end Go.Proofs.YtkplgggdidhnoaaGreatDoor

namespace Go.Proofs.YtkplgggdidhnoaaGreatDoor
open Go.ChangeShapes Go.WideShapes Go.ChangeAt Go.RowKit
set_option linter.unusedVariables false

theorem Ch.cell0 {w w' : World} (h : Ch Noone w w') {b : Nat} (hb : b < w.heap.size) (i : Nat) : w'.cell? ⟨b, i, none⟩ = w.cell? ⟨b, i, none⟩ := World.cell?_of_block (w := w) (a := ⟨b, i, none⟩) (h.block b hb (fun h => h))

set_option maxHeartbeats 8000000 in
set_option maxRecDepth 100000 in
theorem is_go (B : Nat → Prop) (w : World) (v : Value) (L : Lay) (hL : LayAt B w v L) (hT : Tabs w)
    (z1 : ∀ s ∈ L.secs, s.size ≤ 60000) (z2 : ∀ p ∈ L.pts, p.name.size ≤ 60000) (z3 : ∀ s ∈ L.sigs, s.size ≤ 60000) (z4 : ∀ r ∈ L.routes, r.name.size ≤ 60000)
    (s0 : 1 ≤ L.secs.length) (s1 : L.secs.length ≤ 10) (g0 : 1 ≤ L.sigs.length) (g1 : L.sigs.length ≤ 6) (p1 : L.pts.length ≤ 5) (r1 : L.routes.length ≤ 6) :
    Calls Tryz.prog 15 #[v] w fun r w' => ∃ b, r = .returned (.bool b) ∧ (b = true → LayOk L) ∧ Ch Noone w w' := by
  have HT := Lib.hid hT; clear hT
  have Z1 := Lib.hid z1
  have Z2 := Lib.hid z2
  have Z3 := Lib.hid z3
  have Z4 := Lib.hid z4
  clear z1 z2 z3 z4
  have HL := Lib.hid hL
  obtain ⟨v1, v2, v3, v4, rs, rfl, h1, h2, h3, h4, h5, h6⟩ := hL
  have H1 := Lib.hid h1
  have H2 := Lib.hid h2
  have H3 := Lib.hid h3
  have H5 := Lib.hid h5
  have H6 := Lib.hid h6
  have hrl : rs.length = L.routes.length := by rw [← h4]; simp
  have H4 := Lib.hid h4; clear h4 h6
  obtain ⟨a1, c1, rfl, -, -, -, -⟩ := h1
  obtain ⟨a2, c2, rfl, -, -, -, -⟩ := h2
  obtain ⟨a3, c3, rfl, -, -, -, -⟩ := h3
  obtain ⟨a4, c4, rfl, -, -, -, -⟩ := h5
  rw [← hrl] at r1
  have HRL := Lib.hid hrl; clear hrl
  have C0 : Ch Noone w (w.alloc (.cells #[.slice a1 L.secs.length c1, .slice a2 L.pts.length c2, .slice a3 L.sigs.length c3, .slice a4 rs.length c4] 26)) := (Ch.refl _ _).alloc _
  have b0 := Blk.new w 26 #[.slice a1 L.secs.length c1, .slice a2 L.pts.length c2, .slice a3 L.sigs.length c3, .slice a4 rs.length c4]
  obtain ⟨i0, hi0, hz0, hz1, hz2⟩ := info_parts info_str
  go_enter Tryz.func15, Tryz.ntmps15
  go_wp2_with fail
  go_loopw [3, 5] (fun q i wr => ∃ k : Nat, k ≤ L.pts.length ∧ i = .int .i64 k ∧ Ch Noone w wr ∧ Blk wr w.heap.size 26 #[.slice a1 L.secs.length c1, .slice a2 L.pts.length c2, .slice a3 L.sigs.length c3, .slice a4 rs.length c4] ∧
    Own (New (w.heap.size + 1)) wr 9 1 q k ((L.pts.take k).flatMap fun p => fStr p.name) ∧ (∀ (i : Nat) (h : i < L.pts.length), i < k → 0 ≤ L.pts[i].sec ∧ L.pts[i].sec < L.secs.length)) (fun _ i _ => (L.pts.length - intOf i).toNat)
  case atStart => exact ⟨0, by omega, rfl, C0, b0, ⟨rfl, .inl ⟨rfl, rfl⟩⟩, fun i _ h => by omega⟩
  case round =>
    clear b0 C0
    obtain ⟨k, hk, rfl, hch, hb, hown, hsec⟩ := hrel
    have HOwn := Lib.hid hown; clear hown
    have HSec := Lib.hid hsec; clear hsec
    have l1 := hb.cell 1
    simp only [List.getElem?_toArray, List.getElem?_cons_zero, List.getElem?_cons_succ] at l1
    by_cases hkl : k < L.pts.length
    · obtain ⟨b, off, rfl, -, hbw, hat⟩ := H2.out.at (f := fPnt) (C := 2) (fun _ => rfl) (by omega) hkl
      have y0 : wr.cell? ⟨b, off + k * 2, none⟩ = some (.string L.pts[k].name) := (hch.cell0 hbw _).trans (hat 0 (by omega))
      have Y1 : w.cell? ⟨b, off + k * 2 + 1, none⟩ = some (.int .i64 L.pts[k].sec) := hat 1 (by omega)
      clear hat
      have HSt : Hid (0 ≤ L.pts[k].sec → L.pts[k].sec < L.secs.length → ∀ (i : Nat) (h : i < L.pts.length), i < k + 1 → 0 ≤ L.pts[i].sec ∧ L.pts[i].sec < L.secs.length) := fun h0 h1 i hi hik => by
        by_cases e : i = k
        · subst e; exact ⟨h0, h1⟩
        · exact HSec.out i hi (by omega)
      have HTk : Hid (((L.pts.take k).flatMap fun p => fStr p.name) ++ [.string L.pts[k].name] = (L.pts.take (k + 1)).flatMap fun p => fStr p.name) := take_flat (fun p : Pnt => fStr p.name) L.pts k hkl
      have hk0 : (0 : Int) ≤ k := by omega
      have hkl' : (k : Int) < L.pts.length := by omega
      have hsz : w.heap.size + 1 ≤ wr.heap.size := hb.lt
      generalize L.pts[k] = y at *
      go_wp2_with (at_builtin; refine And.right (a := True) ?_)
      refine ⟨trivial, ?_⟩
      refine wpList_append_own _ rfl _ _ 22 rfl (w.heap.size + 1) 9 i0 _ 1 16 Tryz.underlying22 hi0 hz0 hz1 hz2 rfl (by decide) _ k ((L.pts.take k).flatMap fun p => fStr p.name) (by exact rfl) (by exact (HOwn.out.ch ((Ch.refl Noone wr).alloc _) (fun _ _ _ h => h)).row) _ 1 1 [.string y.name] (by exact rfl) rfl (by exact fresh_at _ _ (by simp) _ [.string y.name]) (one_str _) (by unfold maxLen; omega) (by omega) (by simp; omega) ?_
      intro v' w1 hown hgrow _
      have c1 := Ch.own HOwn.out hgrow
      have b1 := c1.blk (hb.alloc (.cells #[.string y.name] 9)) (fun h => by have := h.1; omega)
      have ch1 : Ch Noone w w1 := (hch.alloc _).then c1 fun i hi h => absurd h.1 (by omega)
      rw [HTk.out] at hown
      clear l1
      have l0 := b1.cell 0
      have l1 := b1.cell 1
      simp only [List.getElem?_toArray, List.getElem?_cons_zero, List.getElem?_cons_succ] at l0 l1
      have HB1 := Lib.hid b1
      have HOw := Lib.hid (Own.of hown)
      have y1 : w1.cell? ⟨b, off + k * 2 + 1, none⟩ = some (.int .i64 y.sec) := (ch1.cell0 hbw _).trans Y1
      clear y0 Y1 hgrow hown b1 c1 HOwn HTk
      by_cases x0 : 0 ≤ y.sec
      · have hd1 : decide (y.sec < 0) = false := by simp; omega
        by_cases x1 : y.sec < L.secs.length
        · have hd2 : decide ((L.secs.length : Int) ≤ y.sec) = false := by simp; omega
          have HS2 := Lib.hid (HSt.out x0 x1)
          go_wp2_with fail
          go_big_quiet (fail)
          go_wp2_with fail
          go_roundw
          case rel => exact ⟨k + 1, by omega, by go_num, ch1.drewN _, HB1.out, HOw.out, HS2.out⟩
          case measure => simp [intOf]; omega
        · have hd2 : decide ((L.secs.length : Int) ≤ y.sec) = true := by simp; omega
          clear x1
          go_wp2_with fail
          go_big_quiet (fail)
          go_wp2_with fail
          go_ret
          first | exact ⟨_, rfl, fun h => (by cases h), ch1.drewN _⟩ | exact .inl ⟨rfl, ch1.drewN _⟩
      · have hd1 : decide (y.sec < 0) = true := by simp; omega
        clear x0
        go_wp2_with fail
        go_big_quiet (fail)
        go_wp2_with fail
        go_ret
        first | exact ⟨_, rfl, fun h => (by cases h), ch1.drewN _⟩ | exact .inl ⟨rfl, ch1.drewN _⟩
    · have HPs : Hid (Sl (fun g => g < wr.heap.size) wr u3 (L.pts.map (·.name)).length ((L.pts.map (·.name)).flatMap fStr)) := by
        have h := HOwn.out.sl
        rw [List.take_of_length_le (by omega), show k = L.pts.length by omega] at h
        have e : (L.pts.flatMap fun p => fStr p.name) = (L.pts.map (·.name)).flatMap fStr := by rw [List.flatMap_map]
        rw [e] at h
        unfold Hid
        rw [List.length_map]
        exact h.mono fun _ _ h => h
      have HSe : Hid (∀ p ∈ L.pts, 0 ≤ p.sec ∧ p.sec < L.secs.length) := fun p hp => by
        obtain ⟨i, hi, rfl⟩ := List.getElem_of_mem hp
        exact HSec.out i hi (by omega)
      obtain ⟨M, hM⟩ : ∃ M, M = wr.heap.size := ⟨_, rfl⟩
      rw [← hM] at HPs
      have hM1 : w.heap.size < M := by rw [hM]; exact hb.lt
      have hM2 : M ≤ wr.heap.size := by omega
      clear hM HOwn HSec
      go_wp2_with fail
      clear l1
      go_loopw [4, 6] (fun q i wr => ∃ k : Nat, k ≤ rs.length ∧ i = .int .i64 k ∧ Ch Noone w wr ∧ Blk wr w.heap.size 26 #[.slice a1 L.secs.length c1, .slice a2 L.pts.length c2, .slice a3 L.sigs.length c3, .slice a4 rs.length c4] ∧
        Sl (fun g => g < M) wr u3 (L.pts.map (·.name)).length ((L.pts.map (·.name)).flatMap fStr) ∧
        Own (New M) wr 9 1 q k ((rs.take k).flatMap fun x => fStr x.1.name) ∧ M ≤ wr.heap.size) (fun _ i _ => (rs.length - intOf i).toNat)
      case atStart => exact ⟨0, by omega, rfl, hch, hb, HPs.out, ⟨rfl, .inl ⟨rfl, rfl⟩⟩, hM2⟩
      case round =>
        clear hch hb HPs hM2 hk hkl
        obtain ⟨k, hk, rfl, hch, hb, hps, hown, hM2⟩ := hrel
        have HOwn := Lib.hid hown; clear hown
        have HPs := Lib.hid hps; clear hps
        have l3 := hb.cell 3
        simp only [List.getElem?_toArray, List.getElem?_cons_zero, List.getElem?_cons_succ] at l3
        by_cases hkl : k < rs.length
        · obtain ⟨b, off, rfl, -, hbw, hat⟩ := H5.out.at (f := fRoute) (C := 6) (fun _ => rfl) (by omega) hkl
          have y0 : wr.cell? ⟨b, off + k * 6, none⟩ = some (.string rs[k].1.name) := (hch.cell0 hbw _).trans (hat 0 (by omega))
          clear hat
          have HTk : Hid (((rs.take k).flatMap fun x => fStr x.1.name) ++ [.string rs[k].1.name] = (rs.take (k + 1)).flatMap fun x => fStr x.1.name) := take_flat (fun x : Route × Value × Value × Value => fStr x.1.name) rs k hkl
          have hk0 : (0 : Int) ≤ k := by omega
          have hkl' : (k : Int) < rs.length := by omega
          generalize rs[k].1.name = y at *
          go_wp2_with (at_builtin; refine And.right (a := True) ?_)
          refine ⟨trivial, ?_⟩
          refine wpList_append_own _ rfl _ _ 22 rfl M 9 i0 _ 1 16 Tryz.underlying22 hi0 hz0 hz1 hz2 rfl (by decide) _ k ((rs.take k).flatMap fun x => fStr x.1.name) (by exact rfl) (by exact (HOwn.out.ch ((Ch.refl Noone wr).alloc _) (fun _ _ _ h => h)).row) _ 1 1 [.string y] (by exact rfl) rfl (by exact fresh_at _ _ (by simp) _ [.string y]) (one_str _) (by unfold maxLen; omega) (by omega) (by simp; omega) ?_
          intro v' w1 hown hgrow _
          have c1 := Ch.own HOwn.out hgrow
          have b1 := c1.blk (hb.alloc (.cells #[.string y] 9)) (fun h => by have := h.1; omega)
          have ch1 : Ch Noone w w1 := (hch.alloc _).then c1 fun i hi h => absurd h.1 (by omega)
          rw [HTk.out] at hown
          have HPs1 : Hid (Sl (fun g => g < M) w1 u3 (L.pts.map (·.name)).length ((L.pts.map (·.name)).flatMap fStr)) := (HPs.out.ch0 ((Ch.refl Noone wr).alloc _)).ch c1 (fun b hb _ h => by have := h.1; omega)
          have HOw := Lib.hid (Own.of hown)
          have hM3 : M ≤ w1.heap.size := Nat.le_trans hM2 (Nat.le_trans ((Ch.refl Noone wr).alloc _).size c1.size)
          have HB1 := Lib.hid b1
          clear hgrow hown b1 c1 HOwn HTk HPs l3 y0
          go_wp2_with fail
          go_roundw
          case rel => exact ⟨k + 1, by omega, by go_num, ch1, HB1.out, HPs1.out, HOw.out, hM3⟩
          case measure => simp [intOf]; omega
        · have HRs : Hid (Sl (New M) wr u4 (L.routes.map (·.name)).length ((L.routes.map (·.name)).flatMap fStr)) := by
            have h := HOwn.out.sl
            rw [List.take_of_length_le (by omega), show k = rs.length by omega] at h
            have e : (rs.flatMap fun x => fStr x.1.name) = (L.routes.map (·.name)).flatMap fStr := by rw [← H4.out, List.map_map, List.flatMap_map]; rfl
            rw [e] at h
            unfold Hid
            rw [List.length_map, ← HRL.out]
            exact h
          have HB := Lib.hid hb
          have l0 := hb.cell 0
          simp only [List.getElem?_toArray, List.getElem?_cons_zero] at l0
          clear HOwn hb
          have HN1 := Lib.hid (names_ref B _ _ L.secs (HT.out.ch0 hch) (H1.out.ch0 hch) Z1.out (by omega))
          go_wp2_with fail
          refine HN1.out.mono ?_
          rintro e w1 ⟨b1, rfl, hb1, c1⟩
          have HB1 := Lib.hid hb1; clear hb1
          clear l0 l3
          cases b1 with
          | false =>
            go_wp2_with fail
            go_ret
            first | exact ⟨_, rfl, fun h => (by cases h), hch.trans c1⟩ | exact .inl ⟨rfl, hch.trans c1⟩
          | true =>
          have l2 := (c1.blk HB.out (fun h => h)).cell 2
          simp only [List.getElem?_toArray, List.getElem?_cons_zero, List.getElem?_cons_succ] at l2
          have HN2 := Lib.hid (names_ref B _ _ L.sigs (HT.out.ch0 (hch.trans c1)) (H3.out.ch0 (hch.trans c1)) Z3.out (by omega))
          go_wp2_with fail
          refine HN2.out.mono ?_
          rintro e w2 ⟨b2, rfl, hb2, c2⟩
          have HB2 := Lib.hid hb2; clear hb2
          clear l2
          cases b2 with
          | false =>
            go_wp2_with fail
            go_ret
            first | exact ⟨_, rfl, fun h => (by cases h), (hch.trans c1).trans c2⟩ | exact .inl ⟨rfl, (hch.trans c1).trans c2⟩
          | true =>
          have HN3 := Lib.hid (names_ref _ _ _ (L.pts.map (·.name)) (HT.out.ch0 ((hch.trans c1).trans c2)) (HPs.out.ch0 (c1.trans c2)) (fun s hs => by obtain ⟨p, hp, rfl⟩ := List.mem_map.1 hs; exact Z2.out p hp) (by simp; omega))
          go_wp2_with fail
          refine HN3.out.mono ?_
          rintro e w3 ⟨b3, rfl, hb3, c3⟩
          have HB3 := Lib.hid hb3; clear hb3
          cases b3 with
          | false =>
            go_wp2_with fail
            go_ret
            first | exact ⟨_, rfl, fun h => (by cases h), ((hch.trans c1).trans c2).trans c3⟩ | exact .inl ⟨rfl, ((hch.trans c1).trans c2).trans c3⟩
          | true =>
          have HN4 := Lib.hid (names_ref _ _ _ (L.routes.map (·.name)) (HT.out.ch0 (((hch.trans c1).trans c2).trans c3)) (HRs.out.ch0 ((c1.trans c2).trans c3)) (fun s hs => by obtain ⟨p, hp, rfl⟩ := List.mem_map.1 hs; exact Z4.out p hp) (by rw [List.length_map, ← HRL.out]; omega))
          go_wp2_with fail
          refine HN4.out.mono ?_
          rintro e w4 ⟨b4, rfl, hb4, c4⟩
          have HB4 := Lib.hid hb4; clear hb4
          have ch4 := (((hch.trans c1).trans c2).trans c3).trans c4
          have b4' := (((c1.trans c2).trans c3).trans c4).blk HB.out (fun h => h)
          cases b4 with
          | false =>
            go_wp2_with fail
            go_ret
            first | exact ⟨_, rfl, fun h => (by cases h), ch4⟩ | exact .inl ⟨rfl, ch4⟩
          | true =>
          have HNm : Hid (NamesOk L.secs ∧ NamesOk L.sigs ∧ NamesOk (L.pts.map (·.name)) ∧ NamesOk (L.routes.map (·.name))) := ⟨HB1.out (by trivial), HB2.out (by trivial), HB3.out (by trivial), HB4.out (by trivial)⟩
          clear HB1 HB2 HB3 HB4 HN1 HN2 HN3 HN4 hch c1 c2 c3 c4 HB HPs HRs hM2 hM1 hk hkl
          go_wp2_with fail
          go_loopw [7] (fun i wr => ∃ k : Nat, k ≤ rs.length ∧ i = .int .i64 k ∧ Ch Noone w wr ∧ Blk wr w.heap.size 26 #[.slice a1 L.secs.length c1, .slice a2 L.pts.length c2, .slice a3 L.sigs.length c3, .slice a4 rs.length c4] ∧ (∀ (i : Nat) (h : i < rs.length), i < k → RouteOk L rs[i].1)) (fun i _ => (rs.length - intOf i).toNat)
          case atStart => exact ⟨0, by omega, rfl, ch4, b4', fun i _ h => by omega⟩
          case round =>
            clear ch4 b4'
            obtain ⟨k, hk, rfl, hch, hb, hro⟩ := hrel
            have HRo := Lib.hid hro; clear hro
            have l0 := hb.cell 0
            have l1 := hb.cell 1
            have l2 := hb.cell 2
            have l3 := hb.cell 3
            simp only [List.getElem?_toArray, List.getElem?_cons_zero, List.getElem?_cons_succ] at l0 l1 l2 l3
            have HB := Lib.hid hb; clear hb
            by_cases hkl : k < rs.length
            · obtain ⟨b, off, rfl, -, hbw, hat⟩ := H5.out.at (f := fRoute) (C := 6) (fun _ => rfl) (by omega) hkl
              have y0 : wr.cell? ⟨b, off + k * 6, none⟩ = some (.string rs[k].1.name) := (hch.cell0 hbw _).trans (hat 0 (by omega))
              have y1 : wr.cell? ⟨b, off + k * 6 + 1, none⟩ = some (.int .i64 rs[k].1.frm) := (hch.cell0 hbw _).trans (hat 1 (by omega))
              have y2 : wr.cell? ⟨b, off + k * 6 + 2, none⟩ = some (.int .i64 rs[k].1.to) := (hch.cell0 hbw _).trans (hat 2 (by omega))
              have y3 : wr.cell? ⟨b, off + k * 6 + 3, none⟩ = some rs[k].2.1 := (hch.cell0 hbw _).trans (hat 3 (by omega))
              have y4 : wr.cell? ⟨b, off + k * 6 + 4, none⟩ = some rs[k].2.2.1 := (hch.cell0 hbw _).trans (hat 4 (by omega))
              have y5 : wr.cell? ⟨b, off + k * 6 + 5, none⟩ = some rs[k].2.2.2 := (hch.cell0 hbw _).trans (hat 5 (by omega))
              clear hat
              have HSt : Hid (RouteOk L rs[k].1 → ∀ (i : Nat) (h : i < rs.length), i < k + 1 → RouteOk L rs[i].1) := fun h0 i hi hik => by
                by_cases e : i = k
                · subst e; exact h0
                · exact HRo.out i hi (by omega)
              have HRt := Lib.hid (fun m => route_ref B (wr.drewN m) _ L rs[k] (HL.out.ch0 (hch.drewN m)) ((H6.out _ (List.getElem_mem hkl)).ch (hch.drewN m) (fun _ _ _ h => h)) s1 p1 g1)
              have hk0 : (0 : Int) ≤ k := by omega
              have hkl' : (k : Int) < rs.length := by omega
              generalize rs[k] = y at *
              obtain ⟨rt, vp, vn, vf⟩ := y
              dsimp only at *
              go_wp2_with fail
              go_still_tail 6, (by kernel_rfl)
              change wpList _ _ _ _ _ wr.drew
              go_wp2_with fail
              refine (HRt.out 1).mono ?_
              rintro e w5 ⟨b5, rfl, hb5, c5⟩
              have HB5 := Lib.hid hb5; clear hb5
              cases b5 with
              | false =>
                go_wp2_with fail
                go_ret
                first | exact ⟨_, rfl, fun h => (by cases h), hch.drew.trans c5⟩ | exact .inl ⟨rfl, hch.drew.trans c5⟩
              | true =>
                go_wp2_with fail
                go_roundw
                case rel => exact ⟨k + 1, by omega, by go_num, hch.drew.trans c5, c5.blk (HB.out.drew) (fun h => h), HSt.out (HB5.out (by trivial))⟩
                case measure => simp [intOf]; omega
            · have HOk : Hid (LayOk L) := by
                obtain ⟨n1, n2, n3, n4⟩ := HNm.out
                exact ⟨s0, s1, g0, g1, p1, by rw [← HRL.out]; exact r1, HSe.out, fun r hr => by
                  rw [← H4.out] at hr
                  obtain ⟨y, hy, rfl⟩ := List.mem_map.1 hr
                  obtain ⟨i, hi, rfl⟩ := List.getElem_of_mem hy
                  exact HRo.out i hi (by omega), n1, n2, n3, n4⟩
              go_wp2_with fail
              go_ret
              first | exact ⟨_, rfl, fun _ => HOk.out, hch⟩ | exact .inr ⟨HOk.out, hch⟩

/-- pointsmanref4.Is: what it tells to be a layout may be one. -/
theorem is_ref (B : Nat → Prop) (w : World) (v : Value) (L : Lay) (hL : LayAt B w v L) (hT : Tabs w)
    (z1 : ∀ s ∈ L.secs, s.size ≤ 60000) (z2 : ∀ p ∈ L.pts, p.name.size ≤ 60000) (z3 : ∀ s ∈ L.sigs, s.size ≤ 60000) (z4 : ∀ r ∈ L.routes, r.name.size ≤ 60000) :
    Calls Tryz.prog 15 #[v] w fun r w' => ∃ b, r = .returned (.bool b) ∧ (b = true → LayOk L) ∧ Ch Noone w w' := by
  by_cases h : 1 ≤ L.secs.length ∧ L.secs.length ≤ 10 ∧ 1 ≤ L.sigs.length ∧ L.sigs.length ≤ 6 ∧ L.pts.length ≤ 5 ∧ L.routes.length ≤ 6
  · obtain ⟨h1, h2, h3, h4, h5, h6⟩ := h
    exact is_go B w v L hL hT z1 z2 z3 z4 h1 h2 h3 h4 h5 h6
  · refine (is_no B w v L hL h).mono ?_
    rintro e w' ⟨rfl, hc⟩
    exact ⟨false, rfl, fun h => (by cases h), hc⟩
end Go.Proofs.YtkplgggdidhnoaaGreatDoor
